/- Parts of the abstract state logic and of the walks, one behind the other: Mg8, Mg9, Mg10, Mg11. No condition. -/
import Derived.Test.YtedgmfmhilihoaaP2
import Derived.Laws.Append
/- The abstract state logic, part 8: append, copy, make. No condition. -/
namespace Mg
open Go Go.RowKit
set_option linter.unusedVariables false

variable {P : Program} {T : Tab} {o : Oper} {s : S} {K : S → Prop}

theorem Rl.rename {w0 : World} {wr : Wr} {A : Nat → Prop} {L : Lay} {F : FF} {a : Act} {w : World} (h : Rl w0 wr A L F s a w) {id : Nat} {ob : Ob} (hid : look s.st id = some ob) :
    ∃ L' : Lay, Rl w0 wr A L' F { s with n := s.n + 1, st := (s.n, ob) :: del s.st id } a w ∧ L' s.n = L id ∧ ∀ j, j ≠ s.n → L' j = L j := by
  let L' : Lay := fun j => if j = s.n then L id else L j
  have hLn : L' s.n = L id := if_pos rfl
  have hLo : ∀ j, j ≠ s.n → L' j = L j := fun j hj => if_neg hj
  have hidn : id < s.n := (h.bst id ob hid).1
  have hnone : look (del s.st id) s.n = none := by
    rw [look_del]; split
    · rfl
    · exact fresh_look h
  have hst : ∀ i, look (del s.st id) i = look s.st i ∨ look (del s.st id) i = none ∨ (look s.st i = none ∧ False) := fun i => by
    rw [look_del]
    by_cases e : i = id
    · rw [if_pos e]; exact .inr (.inl rfl)
    · rw [if_neg e]; exact .inl rfl
  have hi : ∀ x : MC, x.bd s.n → ∀ u, RC (look s.st) L w F x u → RC (look ((s.n, ob) :: del s.st id)) L' w F x u := fun x hx u hr =>
    RC.new hnone (fun _ _ => rfl) hLo (fun _ _ _ _ _ _ h => h) hx (RC.mono (fun _ _ => rfl) .rfl hst (fun _ _ => rfl) (fun _ _ _ _ _ _ h => h) hr)
  have hlk : ∀ i x, look ((s.n, ob) :: del s.st id) i = some x → (i = s.n ∧ x = ob) ∨ (i ≠ s.n ∧ i ≠ id ∧ look s.st i = some x) := fun i x hx => by
    rw [look_cons] at hx
    by_cases e : i = s.n
    · rw [if_pos e] at hx; exact .inl ⟨e, (Option.some.inj hx).symm⟩
    · rw [if_neg e, look_del] at hx
      by_cases e' : i = id
      · rw [if_pos e'] at hx; cases hx
      · rw [if_neg e'] at hx; exact .inr ⟨e, e', hx⟩
  have hsome : ∀ i, (look ((s.n, ob) :: del s.st id) i).isSome = true → (i = s.n) ∨ (i ≠ s.n ∧ i ≠ id ∧ (look s.st i).isSome = true) := fun i hi => by
    obtain ⟨x, hx⟩ := Option.isSome_iff_exists.1 hi
    rcases hlk i x hx with ⟨e, _⟩ | ⟨e, e', hx'⟩
    · exact .inl e
    · exact .inr ⟨e, e', by rw [hx']; rfl⟩
  refine ⟨L', ⟨h.os, h.tape, h.output, h.size, h.keep, h.kc, fun i hi => ⟨(hLo i (Nat.ne_of_lt (h.pin i hi).2)).trans (h.pin i hi).1, Nat.lt_succ_of_lt (h.pin i hi).2⟩, h.fa, h.fn, h.fsz, ?_, ?_, ?_, h.sz, ?_, ?_, ?_, h.df⟩, hLn, hLo⟩
  · intro i x hx
    rcases hlk i x hx with ⟨rfl, rfl⟩ | ⟨e, e', hx'⟩
    · have := (h.ob id x hid)
      have hb := (h.bst id x hid).2
      cases x with
      | box cs =>
        obtain ⟨b, t, h1, h2, h3⟩ := this
        exact ⟨b, t, by rw [hLn]; exact h1, h2, h3.imp (fun _ => rfl) fun y hy => hi y (hb y hy)⟩
      | arr rows =>
        rcases this with ⟨h1, h2⟩ | ⟨b, t, h1, h2, h3, h4⟩
        · exact .inl ⟨h1, by rw [hLn]; exact h2⟩
        · exact .inr ⟨b, t, by rw [hLn]; exact h1, h2, h3, fun j r hj => (h4 j r hj).imp (fun _ => rfl) fun y hy => hi y (hb r (List.mem_of_getElem? hj) y hy)⟩
    · exact (h.ob i x hx').imp (h.bst i x hx').2 (hLo i e) (fun _ _ _ => rfl) hi
  · intro i b t h1 h2
    rcases hsome i h1 with rfl | ⟨e, e', hx'⟩
    · rw [hLn] at h2; exact h.own id b t (by simp [hid]) h2
    · rw [hLo i e] at h2; exact h.own i b t hx' h2
  · intro i j b t u h1 h2 h3 h4
    rcases hsome i h1 with ei | ⟨ei, ei', hxi⟩ <;> rcases hsome j h2 with ej | ⟨ej, ej', hxj⟩
    · rw [ei, ej]
    · rw [ei, hLn] at h3; rw [hLo j ej] at h4
      exact absurd (h.inj j id b u t hxj (by simp [hid]) h4 h3) ej'
    · rw [ej, hLn] at h4; rw [hLo i ei] at h3
      exact absurd (h.inj i id b t u hxi (by simp [hid]) h3 h4) ei'
    · rw [hLo i ei] at h3; rw [hLo j ej] at h4
      exact h.inj i j b t u hxi hxj h3 h4
  · exact fun t v hv => (h.env t v hv).imp (h.ben t v hv) hi
  · intro i x hx
    rcases hlk i x hx with ⟨rfl, rfl⟩ | ⟨e, e', hx'⟩
    · exact ⟨Nat.lt_succ_self _, (h.bst id x hid).2.mono (Nat.le_succ _)⟩
    · exact ⟨Nat.lt_succ_of_lt (h.bst i x hx').1, (h.bst i x hx').2.mono (Nat.le_succ _)⟩
  · exact fun t v hv => (h.ben t v hv).mono (Nat.le_succ _)

/-- The rows of a slice. -/
def rowsOf (s : S) : MC → Option (List (List MC))
  | .nil => some []
  | .fz rows => some rows
  | .ag rows => some (rows.map (·.map MC.toA))
  | .ref id off len => match look s.st id with
    | some (.arr rows) => some ((rows.drop off).take len)
    | _ => none
  | _ => none

/-- Values that read as rows, one behind the other. -/
def Flat (st : Sto) (L : Lay) (w : World) (F : FF) (n sz : Nat) (rows : List (List MC)) (news : List Value) : Prop :=
  news.length = rows.length * sz ∧ (∀ u ∈ news, u.oneCell' = true) ∧ (∀ r ∈ rows, ∀ c ∈ r, c.bd n) ∧
    ∀ i j r c, rows[i]? = some r → r[j]? = some c → ∃ u, news[i * sz + j]? = some u ∧ RC st L w F c u

theorem flat_of {st : Sto} {L : Lay} {w : World} {F : FF} {n sz b p : Nat} {rows : List (List MC)} (hs : ∀ r ∈ rows, r.length = sz) (hb : ∀ r ∈ rows, ∀ c ∈ r, c.bd n)
    (h : ∀ (i : Nat) (r : List MC), rows[i]? = some r → WC st L w F b (p + i * sz) r) :
    Flat st L w F n sz rows (vals w b p (rows.length * sz)) ∧ ∀ (j : Nat) (v : Value), (vals w b p (rows.length * sz))[j]? = some v → w.cell? ⟨b, p + j, none⟩ = some v := by
  have key : ∀ k, k < rows.length * sz → ∃ u, w.cell? ⟨b, p + k, none⟩ = some u ∧ u.oneCell' = true := fun k hk => by
    have hz : 0 < sz := Nat.pos_of_ne_zero (fun e => by subst e; simp at hk)
    have hi : k / sz < rows.length := (Nat.div_lt_iff_lt_mul hz).2 hk
    have hr := hs _ (List.getElem_mem hi)
    have hj : k % sz < (rows[k / sz]).length := by rw [hr]; exact Nat.mod_lt _ hz
    obtain ⟨u, hu, hru⟩ := h (k / sz) _ (List.getElem?_eq_getElem hi) (k % sz) _ (List.getElem?_eq_getElem hj)
    refine ⟨u, ?_, hru.one⟩
    have : p + k / sz * sz + k % sz = p + k := by have := Nat.div_add_mod' k sz; omega
    rwa [this] at hu
  refine ⟨⟨by simp [vals], fun u hu => ?_, hb, fun i j r c hi hj => ?_⟩, fun j v hj => ?_⟩
  · simp only [vals, List.mem_map, List.mem_range] at hu
    obtain ⟨k, hk, rfl⟩ := hu
    obtain ⟨u, hu, h1⟩ := key k hk
    simp [hu, h1]
  · obtain ⟨u, hu, hru⟩ := h i r hi j c hj
    refine ⟨u, ?_, hru⟩
    have hlen : j < sz := by
      have := (List.getElem?_eq_some_iff.1 hj).1
      rwa [hs r (List.mem_of_getElem? hi)] at this
    have hil : i < rows.length := (List.getElem?_eq_some_iff.1 hi).1
    have hlt : i * sz + j < rows.length * sz := by
      have : (i + 1) * sz ≤ rows.length * sz := Nat.mul_le_mul_right _ hil
      rw [Nat.add_mul] at this; omega
    simp [vals, List.getElem?_range hlt]
    rw [show p + (i * sz + j) = p + i * sz + j by omega, hu]; rfl
  · have hlt : j < rows.length * sz := by
      have := (List.getElem?_eq_some_iff.1 hj).1
      simpa [vals] using this
    obtain ⟨u, hu, _⟩ := key j hlt
    simp [vals, List.getElem?_range hlt, hu] at hj
    subst hj; exact hu

theorem src_cells {w0 : World} {wr : Wr} {A : Nat → Prop} {L : Lay} {F : FF} {a : Act} {w : World} (h : Rl w0 wr A L F s a w) {c : MC} {v : Value} {rows : List (List MC)} {sz : Nat}
    (hc : RC (look s.st) L w F c v) (hr : rowsOf s c = some rows) (hs : ∀ r ∈ rows, r.length = sz) :
    ∃ b cap news, v = .slice b rows.length cap ∧ rows.length ≤ cap ∧ Flat (look s.st) L w F s.n sz rows news ∧
      ∀ w' : World, w'.heap = w.heap → (Builtin.firstCells sz rows.length v).run P w' = .ok news.toArray w' := by
  have hcell : ∀ w' : World, w'.heap = w.heap → ∀ x, w'.cell? x = w.cell? x := fun w' hw x => World.cell?_of_block (by rw [hw])
  have hload : ∀ (b p cap : Nat), (∀ (j : Nat) (v : Value), (vals w b p (rows.length * sz))[j]? = some v → w.cell? ⟨b, p + j, none⟩ = some v) → ∀ w' : World, w'.heap = w.heap →
      (Builtin.firstCells sz rows.length (.slice (some ⟨b, p, none⟩) rows.length cap)).run P w' = .ok (vals w b p (rows.length * sz)).toArray w' := fun b p cap hv w' hw =>
    run_firstCells_some (P := P) w' sz rows.length ⟨b, p, none⟩ rows.length cap _ (by simp [vals]) (fun j v hj => by rw [Addr.add_mid, hcell w' hw]; exact hv j v hj)
  have hnil : ∀ (b : Option Addr) (cap : Nat), rows = [] → ∀ w' : World, w'.heap = w.heap → (Builtin.firstCells sz rows.length (.slice b rows.length cap)).run P w' = .ok ([] : List Value).toArray w' := fun b cap hn w' _ => by
    subst hn
    cases b with
    | none => simp [run_firstCells_none]
    | some b => exact run_firstCells_some (P := P) w' sz 0 b 0 cap [] (by simp) (fun j v hj => by simp at hj)
  cases c with
  | nil =>
    obtain rfl := Option.some.inj hr
    obtain ⟨b, rfl⟩ := hc
    exact ⟨b, 0, [], rfl, Nat.le_refl _, ⟨by simp, fun _ h => by simp at h, fun _ h => by simp at h, fun i j r c hi => by simp at hi⟩, hnil b 0 rfl⟩
  | fz rows' =>
    obtain rfl := Option.some.inj hr
    obtain ⟨b, cap, rfl, hcap, hb⟩ := RF.fz_inv hc
    by_cases hn : rows' = []
    · subst hn
      exact ⟨b, cap, [], rfl, hcap, ⟨by simp, fun _ h => by simp at h, fun _ h => by simp at h, fun i j r c hi => by simp at hi⟩, hnil b cap rfl⟩
    · obtain ⟨blk, off, st, rfl, hF, hst, hcs⟩ := hb hn
      have hse : st = sz := by
        obtain ⟨r0, rs, rfl⟩ := List.exists_cons_of_ne_nil hn
        rw [← hst r0 (by simp), hs r0 (by simp)]
      subst hse
      obtain ⟨h1, h2⟩ := flat_of (st := look s.st) (L := L) (w := w) (F := F) (n := s.n) (b := blk) (p := off) hs (fun r hr c hc => by
        obtain ⟨i, hi⟩ := List.getElem?_of_mem hr
        obtain ⟨j, hj⟩ := List.getElem?_of_mem hc
        obtain ⟨u, _, hu⟩ := hcs i j r c hi hj
        exact MC.bd_frz hu.frz) (fun i r hi j c hj => by
        obtain ⟨u, hu, hru⟩ := hcs i j r c hi hj
        exact ⟨u, by rw [Nat.add_assoc]; exact hu, RC.of_RF hru⟩)
      exact ⟨_, cap, _, rfl, hcap, h1, hload blk off cap h2⟩
  | ag rows' =>
    obtain rfl := Option.some.inj hr
    have hc : RF w F.all (.fz rows') v := hc
    obtain ⟨b, cap, rfl, hcap, hb⟩ := RF.fz_inv hc
    have hlm : (rows'.map (·.map MC.toA)).length = rows'.length := by simp
    have hget : ∀ (i : Nat) (r : List MC), (rows'.map (·.map MC.toA))[i]? = some r → ∃ r', rows'[i]? = some r' ∧ r = r'.map MC.toA := fun i r hi => by
      rw [List.getElem?_map] at hi
      obtain ⟨y, hy, rfl⟩ := Option.map_eq_some_iff.1 hi
      exact ⟨y, hy, rfl⟩
    have hget2 : ∀ (j : Nat) (r' : List MC) (x : MC), (r'.map MC.toA)[j]? = some x → ∃ y, r'[j]? = some y ∧ x = y.toA := fun j r' x hj => by
      rw [List.getElem?_map] at hj
      obtain ⟨y, hy, rfl⟩ := Option.map_eq_some_iff.1 hj
      exact ⟨y, hy, rfl⟩
    rw [← hlm] at hcap ⊢
    by_cases hn : rows' = []
    · subst hn
      exact ⟨b, cap, [], rfl, hcap, ⟨by simp, fun _ h => by simp at h, fun _ h => by simp at h, fun i j r c hi => by simp at hi⟩, hnil b cap rfl⟩
    · obtain ⟨blk, off, st, rfl, hF, hst, hcs⟩ := hb hn
      have hse : st = sz := by
        obtain ⟨r0, rs, rfl⟩ := List.exists_cons_of_ne_nil hn
        rw [← hst r0 (by simp), ← hs (r0.map MC.toA) (by simp)]; simp
      subst hse
      obtain ⟨h1, h2⟩ := flat_of (st := look s.st) (L := L) (w := w) (F := F) (n := s.n) (b := blk) (p := off) hs (fun r hr c hc => by
        obtain ⟨i, hi⟩ := List.getElem?_of_mem hr
        obtain ⟨j, hj⟩ := List.getElem?_of_mem hc
        obtain ⟨r', hr', rfl⟩ := hget i r hi
        obtain ⟨c', hc', rfl⟩ := hget2 j r' c hj
        obtain ⟨u, _, hu⟩ := hcs i j r' c' hr' hc'
        exact MC.bd_toA hu.frz) (fun i r hi j c hj => by
        obtain ⟨r', hr', rfl⟩ := hget i r hi
        obtain ⟨c', hc', rfl⟩ := hget2 j r' c hj
        obtain ⟨u, hu, hru⟩ := hcs i j r' c' hr' hc'
        exact ⟨u, by rw [Nat.add_assoc]; exact hu, RC.of_RFa hru⟩)
      exact ⟨_, cap, _, rfl, hcap, h1, hload blk off cap h2⟩
  | ref id off len =>
    simp only [rowsOf] at hr
    split at hr
    · rename_i rows' ho
      obtain rfl := Option.some.inj hr
      obtain ⟨b, cap, hv, hle, hx⟩ := hc.2 rows' ho
      have hlen : ((rows'.drop off).take len).length = len := by simp; omega
      by_cases hn : len = 0
      · subst hn
        have he : (rows'.drop off).take 0 = [] := rfl
        rw [he] at *
        exact ⟨b, cap, [], hv, Nat.zero_le _, ⟨by simp, fun _ h => by simp at h, fun _ h => by simp at h, fun i j r c hi => by simp at hi⟩, hv ▸ hnil b cap rfl⟩
      · obtain ⟨blk, st, cap', hL, hv', _, hcap, _, _, hs', hw⟩ := ref_row h hc ho hn
        have hse : st = sz := by
          have h0 : ((rows'.drop off).take len)[0]? = some (rows'.getD off []) := by
            rw [List.getElem?_take, if_pos (by omega), List.getElem?_drop]
            simp [List.getElem?_eq_getElem (show off < rows'.length by omega)]
          have h1 := hs _ (List.mem_of_getElem? h0)
          rw [← h1, hs']
          rw [List.getElem?_take, if_pos (by omega), List.getElem?_drop] at h0
          exact List.mem_of_getElem? h0
        subst hse
        have hbd := (h.bst id _ ho).2
        obtain ⟨h1, h2⟩ := flat_of (st := look s.st) (L := L) (w := w) (F := F) (n := s.n) (b := blk) (p := off * st) hs (fun r hr c hc =>
          hbd r (List.mem_of_mem_drop (List.mem_of_mem_take hr)) c hc) (fun i r hi j c hj => by
          rw [List.getElem?_take] at hi
          split at hi
          · rw [List.getElem?_drop] at hi
            have := hw _ r hi j c hj
            rwa [Nat.add_mul] at this
          · cases hi)
        refine ⟨_, cap', _, by rw [hlen]; exact hv', by omega, h1, ?_⟩
        have := hload blk (off * st) cap' h2
        rw [hlen] at this ⊢
        rw [hv']; exact this
    · cases hr
  | _ => cases hr

theorem Flat.append_get {st : Sto} {L : Lay} {w : World} {F : FF} {n sz : Nat} {r1 r2 : List (List MC)} {n1 n2 : List Value} (h1 : Flat st L w F n sz r1 n1) (h2 : Flat st L w F n sz r2 n2) :
    Flat st L w F n sz (r1 ++ r2) (n1 ++ n2) := by
  refine ⟨by simp [h1.1, h2.1, Nat.add_mul], fun u hu => ?_, fun r hr => ?_, fun i j r c hi hj => ?_⟩
  · rcases List.mem_append.1 hu with hu | hu
    · exact h1.2.1 u hu
    · exact h2.2.1 u hu
  · rcases List.mem_append.1 hr with hr | hr
    · exact h1.2.2.1 r hr
    · exact h2.2.2.1 r hr
  · by_cases hlt : i < r1.length
    · rw [List.getElem?_append_left hlt] at hi
      obtain ⟨u, hu, hru⟩ := h1.2.2.2 i j r c hi hj
      refine ⟨u, ?_, hru⟩
      rw [List.getElem?_append_left (List.getElem?_eq_some_iff.1 hu).1]; exact hu
    · rw [List.getElem?_append_right (by omega)] at hi
      obtain ⟨u, hu, hru⟩ := h2.2.2.2 _ j r c hi hj
      refine ⟨u, ?_, hru⟩
      have he : i * sz = r1.length * sz + (i - r1.length) * sz := by rw [← Nat.add_mul]; congr 1; omega
      rw [List.getElem?_append_right (by rw [h1.1]; omega), h1.1, show i * sz + j - r1.length * sz = (i - r1.length) * sz + j by omega]
      exact hu

end Mg

/- The abstract state logic, part 9: append, copy, make. No condition. -/
namespace Mg
open Go Go.RowKit
set_option linter.unusedVariables false

variable {P : Program} {T : Tab} {o : Oper} {s : S} {K : S → Prop}

/-- An object of rows out of a block whose first cells read so. -/
theorem arr_of_flat {st st' : Sto} {L L' : Lay} {w w' : World} {F : FF} {n sz b id : Nat} {rows : List (List MC)} {news : List Value} (h : Flat st L w F n sz rows news)
    (hs : ∀ r ∈ rows, r.length = sz) (hL : L' id = some (b, sz)) (hf : Free w' b) (hw : ∀ (j : Nat) (v : Value), news[j]? = some v → w'.cell? ⟨b, j, none⟩ = some v)
    (hi : ∀ x : MC, x.bd n → ∀ u, RC st L w F x u → RC st' L' w' F x u) : ObOK st' L' w' F id (.arr rows) :=
  .inr ⟨b, sz, hL, hf, hs, fun i r hr j x hj => by
    obtain ⟨u, hu, hru⟩ := h.2.2.2 i j r x hr hj
    exact ⟨u, hw _ u hu, hi x (h.2.2.1 r (List.mem_of_getElem? hr) x (List.mem_of_getElem? hj)) u hru⟩⟩

/-- What stands where 'append' may add: nil, or a live slice, whole. -/
def base? (s : S) : MC → Option (List (List MC) × List (Nat × Ob))
  | .nil => some ([], s.st)
  | .ref id off len => match look s.st id with
    | some (.arr rows) => if off = 0 then some (rows, del s.st id) else none
    | _ => none
  | _ => none

def S.app (s : S) (rows : List (List MC)) (st : List (Nat × Ob)) : S := { s with n := s.n + 1, st := (s.n, .arr rows) :: st }

theorem RV.of_one {st : Sto} {L : Lay} {w : World} {F : FF} {c : MC} {v : Value} (h : RV st L w F (.one c) v) : RC st L w F c v := h

theorem del_fresh {α : Type} : ∀ (l : List (Nat × α)) (n : Nat), (∀ i x, look l i = some x → i < n) → ∀ i x, look (del l n) i = some x → look l i = some x
  | l, n, h, i, x, hx => by
    rw [look_del] at hx
    split at hx
    · cases hx
    · exact hx

/-- An empty object without a block. -/
theorem Rl.virt {w0 : World} {wr : Wr} {A : Nat → Prop} {L : Lay} {F : FF} {a : Act} {w : World} (h : Rl w0 wr A L F s a w) :
    ∃ L' : Lay, Rl w0 wr A L' F (s.app [] s.st) a w ∧ L' s.n = none ∧ (∀ j, j ≠ s.n → L' j = L j) ∧
      (∀ x : MC, x.bd s.n → ∀ u, RC (look s.st) L w F x u → RC (look (s.app [] s.st).st) L' w F x u) := by
  let L' : Lay := fun j => if j = s.n then none else L j
  have hLn : L' s.n = none := if_pos rfl
  have hLo : ∀ j, j ≠ s.n → L' j = L j := fun j hj => if_neg hj
  have hn := fresh_look h
  have hi : ∀ x : MC, x.bd s.n → ∀ u, RC (look s.st) L w F x u → RC (look (s.app [] s.st).st) L' w F x u := fun x hx u hr =>
    RC.new hn (fun _ _ => rfl) hLo (fun _ _ _ _ _ _ h => h) hx hr
  have hlk : ∀ i x, look (s.app [] s.st).st i = some x → (i = s.n ∧ x = .arr []) ∨ (i ≠ s.n ∧ look s.st i = some x) := fun i x hx => by
    simp only [S.app, look_cons] at hx
    by_cases e : i = s.n
    · rw [if_pos e] at hx; exact .inl ⟨e, (Option.some.inj hx).symm⟩
    · rw [if_neg e] at hx; exact .inr ⟨e, hx⟩
  have hsome : ∀ i b t, (look (s.app [] s.st).st i).isSome = true → L' i = some (b, t) → i ≠ s.n ∧ (look s.st i).isSome = true ∧ L i = some (b, t) := fun i b t hi hL => by
    obtain ⟨x, hx⟩ := Option.isSome_iff_exists.1 hi
    rcases hlk i x hx with ⟨rfl, _⟩ | ⟨e, hx'⟩
    · rw [hLn] at hL; cases hL
    · exact ⟨e, by rw [hx']; rfl, by rw [← hLo i e]; exact hL⟩
  refine ⟨L', ⟨h.os, h.tape, h.output, h.size, h.keep, h.kc, fun i hi => ⟨(hLo i (Nat.ne_of_lt (h.pin i hi).2)).trans (h.pin i hi).1, Nat.lt_succ_of_lt (h.pin i hi).2⟩, h.fa, h.fn, h.fsz, ?_, ?_, ?_, h.sz, ?_, ?_, ?_, h.df⟩, hLn, hLo, hi⟩
  · intro i x hx
    rcases hlk i x hx with ⟨rfl, rfl⟩ | ⟨e, hx'⟩
    · exact .inl ⟨rfl, hLn⟩
    · exact (h.ob i x hx').imp (h.bst i x hx').2 (hLo i e) (fun _ _ _ => rfl) hi
  · intro i b t h1 h2
    obtain ⟨_, h3, h4⟩ := hsome i b t h1 h2
    exact h.own i b t h3 h4
  · intro i j b t u h1 h2 h3 h4
    obtain ⟨_, h5, h6⟩ := hsome i b t h1 h3
    obtain ⟨_, h7, h8⟩ := hsome j b u h2 h4
    exact h.inj i j b t u h5 h7 h6 h8
  · exact fun t v hv => (h.env t v hv).imp (h.ben t v hv) hi
  · intro i x hx
    rcases hlk i x hx with ⟨rfl, rfl⟩ | ⟨e, hx'⟩
    · exact ⟨Nat.lt_succ_self _, fun r hr => by simp at hr⟩
    · exact ⟨Nat.lt_succ_of_lt (h.bst i x hx').1, (h.bst i x hx').2.mono (Nat.le_succ _)⟩
  · exact fun t v hv => (h.ben t v hv).mono (Nat.le_succ _)

theorem Rl.drop {w0 : World} {wr : Wr} {A : Nat → Prop} {L : Lay} {F : FF} {a : Act} {w : World} (h : Rl w0 wr A L F s a w) (id : Nat) :
    Rl w0 wr A L F { s with st := del s.st id } a w := h.weaken ⟨rfl, fun t v hv => ⟨hv, h.ben t v hv⟩, fun i x hx => by
  have hx : look (del s.st id) i = some x := hx
  rw [look_del] at hx
  split at hx
  · cases hx
  · exact ⟨hx, h.bst i x hx⟩⟩ fun i hi => (h.pin i hi).2

theorem base_st {c : MC} {rows : List (List MC)} {st : List (Nat × Ob)} (hb : base? s c = some (rows, st)) : st = s.st ∨ ∃ id, st = del s.st id := by
  cases c with
  | nil => simp [base?] at hb; exact .inl hb.2.symm
  | ref id off len =>
    simp only [base?] at hb
    split at hb
    · split at hb
      · exact .inr ⟨id, (Prod.mk.inj (Option.some.inj hb)).2.symm⟩
      · cases hb
    · cases hb
  | _ => simp [base?] at hb

theorem r_append {x y : Operand} {t t2 e : TypeId} {c d : MC} {rows rows2 : List (List MC)} {st : List (Nat × Ob)} {i ie i2 : TI} (hT : TOk P T)
    (ho : o.op = .call { callee := .builtin .append, args := #[x, y], argTypes := #[t, t2] }) (hd : Oper.dok o s.m = true)
    (ht : T t = some i) (hk : i.k = .slice e) (he : T e = some ie) (ht2 : T t2 = some i2) (hk2 : i2.k = .slice e) (hx : evO s x = some (.one c)) (hy : evO s y = some (.one d))
    (hb : base? s c = some (rows, st)) (hl : ∀ id off len, c = .ref id off len → len = rows.length) (hr : rowsOf s d = some rows2)
    (hs : ∀ r ∈ rows, r.length = ie.size) (hs2 : ∀ r ∈ rows2, r.length = ie.size)
    (hsz : (rows.length + rows2.length) * ie.bytes ≤ 140737488355328) (hsz' : rows.length + rows2.length ≤ 140737488355328)
    (k : K ((s.app (rows ++ rows2) st).put o.dst (.one (.ref s.n 0 (rows.length + rows2.length))))) : OpOK P o s K := by
  intro w0 wr A a w Q K' hg ⟨L, F, hR⟩ hK
  obtain ⟨h1, hb1⟩ := evO_ok hR hx
  obtain ⟨h2, hb2⟩ := evO_ok hR hy
  have h1 := h1.of_one
  have h2 := h2.of_one
  have hu := hT.und_slice ht hk
  have hu2 := hT.und_slice ht2 hk2
  obtain ⟨f, hf, hfs, hfb, _, z, hz, hzc, h7⟩ := hT.info he
  -- the base's rows, its source of cells
  have hrb : rowsOf s c = some rows := by
    cases c with
    | nil => simp [base?] at hb; simp [rowsOf, hb.1]
    | ref id off len =>
      simp only [base?] at hb
      split at hb
      · rename_i rows' hlk
        split at hb
        · rename_i h0
          obtain ⟨rfl, rfl⟩ := Prod.mk.inj (Option.some.inj hb)
          have := hl id off len rfl
          subst h0
          subst this
          simp [rowsOf, hlk]
        · cases hb
      · cases hb
    | _ => simp [base?] at hb
  obtain ⟨bb, bc, olds, hbv, hbcap, hfo, hlo⟩ := src_cells (P := P) hR h1 hrb hs
  obtain ⟨sb, sc, news, hsv, hscap, hfn, hln⟩ := src_cells (P := P) hR h2 hr hs2
  have hall : ∀ r ∈ rows ++ rows2, r.length = ie.size := fun r hr' => by
    rcases List.mem_append.1 hr' with h | h
    · exact hs r h
    · exact hs2 r h
  have hflat := hfo.append_get hfn
  have hzeros : ∀ w, (match (some t2 : Option TypeId) with | some xType => (do pure ((← underlying xType) matches .int _) : Sem Bool) | none => pure false).run P w = .ok false w := fun w => by
    simp [run_underlying hu2]
  unfold Oper.wp
  have hcases : (rows = [] ∧ bc = 0) ∨ ∃ id b, c = .ref id 0 rows.length ∧ look s.st id = some (.arr rows) ∧ st = del s.st id ∧ L id = some (b, ie.size) ∧ bb = some ⟨b, 0, none⟩ ∧ rows ≠ [] ∧
      (∀ j, j < bc * ie.size → (w.cell? ⟨b, j, none⟩).isSome = true) := by
    cases c with
    | nil =>
      simp [base?] at hb
      obtain ⟨a', ha'⟩ := h1
      rw [hbv] at ha'
      injection ha' with _ _ h5
      exact .inl ⟨hb.1, h5⟩
    | ref id off len =>
      simp only [base?] at hb
      split at hb
      · rename_i rows' hlk
        split at hb
        · rename_i h0
          obtain ⟨rfl, rfl⟩ := Prod.mk.inj (Option.some.inj hb)
          have hlen := hl id off len rfl
          subst h0
          subst hlen
          obtain ⟨a', cap', hv', _, hx'⟩ := h1.2 rows' hlk
          rw [hbv] at hv'
          injection hv' with h5 _ h6
          rcases hx' with ⟨b, st', hL, rfl, _, hne, hcs⟩ | ⟨h7, h8⟩
          · refine .inr ⟨id, b, rfl, hlk, rfl, ?_, by rw [h5, Nat.zero_mul], hne, ?_⟩
            all_goals
              rcases hR.ob id _ hlk with ⟨h9, _⟩ | ⟨b', st'', hL', _, hs', _⟩
              · exact absurd h9 hne
              · rw [hL] at hL'
                obtain ⟨rfl, rfl⟩ := Prod.mk.inj (Option.some.inj hL')
                obtain ⟨r0, rs, hrr⟩ := List.exists_cons_of_ne_nil hne
                have : st' = ie.size := by rw [← hs' r0 (by rw [hrr]; simp), hs r0 (by rw [hrr]; simp)]
                subst this
                first
                  | exact hL
                  | (intro j hj; exact hcs j (by rw [Nat.zero_add, ← h6]; exact hj))
          · exact .inl ⟨List.eq_nil_of_length_eq_zero h7, by omega⟩
        · cases hb
      · cases hb
    | _ => simp [base?] at hb
  have hdrop : ∀ {F : FF} {L : Lay} {w : World} {s' : S}, Rl w0 wr A L F s' a w → s'.st = s.st → Rl w0 wr A L F { s' with st := st } a w := fun {F L w s'} h he => by
    rcases base_st hb with rfl | ⟨id, rfl⟩
    · rw [← he]; exact h
    · rw [← he]; exact h.drop id
  by_cases hroom : rows.length + rows2.length ≤ bc
  · -- room
    rcases hcases with ⟨rfl, rfl⟩ | ⟨id, b, rfl, hlk, rfl, hL, rfl, hne, hcs⟩
    · obtain rfl : rows2 = [] := by simpa using hroom
      have hrun : (execOp a.eval o).run P w = .ok (.value (.slice bb 0 0)) w := by
        have h3 := hln w rfl
        have hnl : news = [] := List.eq_nil_of_length_eq_zero (by simpa using hfn.1)
        subst hnl
        simp only [execOp, ho, resolve, invoke, builtin, Sem.run_bind, Sem.run_pure, Result.andThen_ok, List.map_toArray, List.map_cons, List.map_nil]
        rw [hbv, hsv]
        rw [hsv] at h3
        cases bb <;> simp [Builtin.append_, run_underlying hu, run_underlying hu2, hT.size he, Builtin.lenOf, h3, storeCells] at h3 ⊢ <;> simp [h3, storeCells]
      rw [hrun]
      obtain ⟨L', hfin, _⟩ := (hdrop hR rfl).virt
      refine hK _ _ _ ⟨L', F, hfin.put (Oper.dok_spec hd) ?_ (Nat.lt_succ_self _)⟩ k
      exact ⟨rfl, fun rows' hr' => ⟨bb, 0, rfl, by simp, .inr ⟨rfl, rfl⟩⟩⟩
    · have hst0 : True := trivial
      rcases hR.ob id _ hlk with ⟨h99, _⟩ | ⟨b', st'', hL', hfree, hs', hw⟩
      · exact absurd h99 hne
      · rw [hL] at hL'
        obtain ⟨rfl, rfl⟩ := Prod.mk.inj (Option.some.inj hL')
        have hnl : news.length = rows2.length * ie.size := hfn.1
        have hcells : ∀ j, j < news.length → (w.cell? ⟨b, rows.length * ie.size + j, none⟩).isSome = true := fun j hj => hcs _ (by
          have : (rows.length + rows2.length) * ie.size ≤ bc * ie.size := Nat.mul_le_mul_right _ hroom
          rw [Nat.add_mul] at this; omega)
        have hst := run_storeCells_cells (P := P) b (rows.length * ie.size) news 0 w (by simpa using hcells) (fun j _ => hfree _) hfn.2.1
        simp only [Nat.add_zero] at hst
        have hrun : (execOp a.eval o).run P w = .ok (.value (.slice (some ⟨b, 0, none⟩) (rows.length + rows2.length) bc)) (w.setCells b (rows.length * ie.size) news) := by
          have h3 := hln w rfl
          simp only [execOp, ho, resolve, invoke, builtin, Sem.run_bind, Sem.run_pure, Result.andThen_ok, List.map_toArray, List.map_cons, List.map_nil]
          rw [hbv, hsv]
          rw [hsv] at h3
          simp [Builtin.append_, run_underlying hu, run_underlying hu2, hT.size he, Builtin.lenOf, hroom, h3, Addr.add_mid, hst]
        rw [hrun]
        have hbd' : (Ob.arr (rows ++ rows2)).bd s.n := hflat.2.2.1
        have hfz : Free (w.setCells b (rows.length * ie.size) news) b := fun j => by rw [World.frozen?_setCells]; exact hfree j
        have hstore := hR.store (p := rows.length * ie.size) (o' := .arr (rows ++ rows2)) hlk hL (by simp [Ob.like]) hcells hbd' (fun hi => by
          refine .inr ⟨b, ie.size, hL, hfz, hall, fun i r hri j x hj => ?_⟩
          have hjz : j < ie.size := by
            have := (List.getElem?_eq_some_iff.1 hj).1
            rwa [hall r (List.mem_of_getElem? hri)] at this
          by_cases hlt : i < rows.length
          · rw [List.getElem?_append_left hlt] at hri
            obtain ⟨u, hu', hru⟩ := hw i r hri j x hj
            refine ⟨u, ?_, hi x u hru⟩
            have : (i + 1) * ie.size ≤ rows.length * ie.size := Nat.mul_le_mul_right _ hlt
            rw [Nat.add_mul] at this
            rw [World.cell?_setCells_out b _ _ w _ (fun _ _ => .inl (by simp only; omega))]
            exact hu'
          · rw [List.getElem?_append_right (by omega)] at hri
            obtain ⟨u, hu', hru⟩ := hfn.2.2.2 _ j r x hri hj
            refine ⟨u, ?_, hi x u hru⟩
            have hm : (i - rows.length) * ie.size + j < news.length := (List.getElem?_eq_some_iff.1 hu').1
            have := World.cell?_setCells_in b news (rows.length * ie.size) w hcells _ hm
            have he' : i * ie.size = rows.length * ie.size + (i - rows.length) * ie.size := by rw [← Nat.add_mul]; congr 1; omega
            rw [he', Nat.add_assoc, this]
            rw [List.getElem?_eq_getElem hm] at hu'
            exact hu')
        obtain ⟨L', hren, hLn, hLo⟩ := hstore.rename (id := id) (ob := .arr (rows ++ rows2)) (by simp [S.set, look_upd, hlk])
        have hdel : ({ s.set id (.arr (rows ++ rows2)) with n := (s.set id (.arr (rows ++ rows2))).n + 1, st := ((s.set id (.arr (rows ++ rows2))).n, .arr (rows ++ rows2)) :: del (s.set id (.arr (rows ++ rows2))).st id } : S).st = (s.n, .arr (rows ++ rows2)) :: del (upd s.st id (.arr (rows ++ rows2))) id := rfl
        have hsub : Sub (s.app (rows ++ rows2) (del s.st id)) { s.set id (.arr (rows ++ rows2)) with n := (s.set id (.arr (rows ++ rows2))).n + 1, st := ((s.set id (.arr (rows ++ rows2))).n, .arr (rows ++ rows2)) :: del (s.set id (.arr (rows ++ rows2))).st id } := by
          refine ⟨rfl, fun t v hv => ⟨hv, (hR.ben t v hv).mono (Nat.le_succ _)⟩, fun i o' ho' => ?_⟩
          simp only [S.app, look_cons, look_del] at ho'
          simp only [S.set, look_cons, look_del, look_upd]
          by_cases e1 : i = s.n
          · rw [if_pos e1] at ho' ⊢
            obtain rfl := Option.some.inj ho'
            exact ⟨rfl, by simp only [S.app]; omega, hbd'.mono (Nat.le_succ _)⟩
          · rw [if_neg e1] at ho' ⊢
            by_cases e2 : i = id
            · rw [if_pos e2] at ho'; cases ho'
            · rw [if_neg e2] at ho' ⊢
              rw [if_neg (fun hh => e2 hh.1)]
              have := hR.bst i o' ho'
              exact ⟨ho', Nat.lt_succ_of_lt this.1, this.2.mono (Nat.le_succ _)⟩
        have hfin := hren.weaken hsub fun i hi => Nat.lt_succ_of_lt (hR.pin i hi).2
        refine hK _ _ _ ⟨L', F, hfin.put (Oper.dok_spec hd) ?_ (Nat.lt_succ_self _)⟩ k
        refine ⟨rfl, fun rows' hr' => ?_⟩
        have : rows' = rows ++ rows2 := by simpa [S.app, look_cons] using hr'.symm
        subst this
        refine ⟨_, bc, rfl, by simp, .inl ⟨b, ie.size, ?_, by simp, hroom, by simp [hne], fun j hj => ?_⟩⟩
        · rw [show s.n = (s.set id (.arr (rows ++ rows2))).n from rfl, hLn]; exact hL
        · exact some_setCells b news _ w hcells _ (hcs j (by simpa using hj))
  · -- growth
    have hgrow : bc < rows.length + rows2.length := by omega
    have hfit := growslice_fits (bytes := ie.bytes) hgrow hsz
    have hnl : news.length = rows2.length * ie.size := hfn.1
    have hol : olds.length = rows.length * ie.size := hfo.1
    let cap := grownCap w (rows.length + rows2.length) bc e
    have hcapge : rows.length + rows2.length ≤ cap := by
      show _ ≤ (Question.appendCap _ _ _).cut _
      simp [Question.cut]
    let c0 : Array Value := (olds ++ news).toArray ++ Builtin.zeroCells z.cells (cap - (rows.length + rows2.length))
    have hrun : (execOp a.eval o).run P w = .ok (.value (.slice (some ⟨w.heap.size, 0, none⟩) (rows.length + rows2.length) cap)) (w.drew.alloc (.cells c0 e (0, 0))) := by
      have h3 := hln w.drew rfl
      have h4 := hlo w.drew rfl
      simp only [execOp, ho, resolve, invoke, builtin, Sem.run_bind, Sem.run_pure, Result.andThen_ok, List.map_toArray, List.map_cons, List.map_nil]
      rw [hbv, hsv]
      rw [hsv] at h3
      rw [hbv] at h4
      have h63' : ¬ (9223372036854775807 < ((rows.length : Int) + (rows2.length : Int))) := by omega
      have h48' : ¬ (281474976710656 < Builtin.nextslicecap (rows.length + rows2.length) bc * ie.bytes) := by omega
      simp [Builtin.append_, run_underlying hu, run_underlying hu2, Go.sizeOf, typeInfo, zeroValue, hf, hz, hfs, hfb, Builtin.lenOf, hroom, h63', h48', Question.forced, h3, h4, newRow]
      refine ⟨rfl, ?_⟩
      show World.alloc _ (.cells (olds.toArray ++ (news.toArray ++ Builtin.zeroCells z.cells (cap - (rows.length + rows2.length)))) e (0, 0)) = _
      congr 2
      apply Array.ext'
      simp [c0, List.append_assoc]
    rw [hrun]
    have hzl : z.cells.size = ie.size := by
      have := (zc_ok (st := look s.st) (L := L) (w := w) (F := F) _ _ hzc).1
      simpa [h7] using this
    have hc0 : c0.size = cap * ie.size := by
      simp only [c0, Array.size_append, List.size_toArray, List.length_append, size_zeroCells, hzl, hnl, hol]
      rw [← Nat.add_mul, ← Nat.add_mul]; congr 1; exact Nat.add_sub_cancel' hcapge
    have hbd' : (Ob.arr (rows ++ rows2)).bd s.n := hflat.2.2.1
    have hne : rows ++ rows2 ≠ [] := fun e => by
      have := congrArg List.length e
      rw [List.length_append, List.length_nil] at this; omega
    have hi0 : ∀ (x : MC) (u : Value), RC (look s.st) L w F x u → RC (look s.st) L { w with drawn := w.drawn + 1 } F x u := fun x u hr =>
      RC.same (w := w) (w' := { w with drawn := w.drawn + 1 }) (F := F) (F' := F) (L := L) (L' := L) (fun _ _ => rfl) .rfl (fun _ _ => rfl) (fun _ _ _ _ _ _ h => h) hr
    obtain ⟨L', hal, hLn, hLo⟩ := hR.drew.alloc c0 e ie.size (.arr (rows ++ rows2)) hbd' (fun L' h5 h6 hi => arr_of_flat hflat hall h5 (free_alloc _ _ _) (fun j v hj => by
      rw [show w.heap.size = ({ w with drawn := w.drawn + 1 } : World).heap.size from rfl, cell_alloc]
      simp only [c0]
      have hlt := (List.getElem?_eq_some_iff.1 hj).1
      rw [Array.getElem?_append_left (by simpa using hlt)]
      simpa using hj) (fun x hx u hr => hi x hx u (hi0 x u hr)))
    have hsub : Sub (s.app (rows ++ rows2) st) (s.new (.arr (rows ++ rows2))) := by
      refine ⟨rfl, fun t v hv => ⟨hv, (hR.ben t v hv).mono (Nat.le_succ _)⟩, fun i o' ho' => ?_⟩
      simp only [S.app, look_cons] at ho'
      simp only [S.new, look_cons]
      by_cases e1 : i = s.n
      · rw [if_pos e1] at ho' ⊢
        obtain rfl := Option.some.inj ho'
        exact ⟨rfl, by simp only [S.app]; omega, hbd'.mono (Nat.le_succ _)⟩
      · rw [if_neg e1] at ho' ⊢
        have hlk : look s.st i = some o' := by
          rcases base_st hb with rfl | ⟨id, rfl⟩
          · exact ho'
          · rw [look_del] at ho'
            split at ho'
            · cases ho'
            · exact ho'
        have := hR.bst i o' hlk
        exact ⟨hlk, Nat.lt_succ_of_lt this.1, this.2.mono (Nat.le_succ _)⟩
    have hfin := hal.weaken hsub fun i hi => Nat.lt_succ_of_lt (hR.pin i hi).2
    refine hK _ _ _ ⟨L', F, hfin.put (Oper.dok_spec hd) ?_ (Nat.lt_succ_self _)⟩ k
    refine ⟨rfl, fun rows' hr' => ?_⟩
    have : rows' = rows ++ rows2 := by simpa [S.app, look_cons] using hr'.symm
    subst this
    refine ⟨_, cap, rfl, by simp, .inl ⟨w.heap.size, ie.size, hLn, by simp, hcapge, hne, fun j hj => ?_⟩⟩
    rw [show w.heap.size = ({ w with drawn := w.drawn + 1 } : World).heap.size from rfl]
    have := cell_alloc ({ w with drawn := w.drawn + 1 } : World) c0 e j
    show ((({ w with drawn := w.drawn + 1 } : World).alloc (.cells c0 e (0, 0))).cell? _).isSome = true
    rw [this]
    have hj' : j < c0.size := by rw [hc0]; simpa using hj
    simp [hj']

end Mg

/- The abstract state logic, part 10: make, slice literals, copy, fields, strings' bytes. No condition. -/
namespace Mg
open Go Go.RowKit
set_option linter.unusedVariables false
set_option linter.unusedSimpArgs false

variable {P : Program} {T : Tab} {o : Oper} {s : S} {K : S → Prop}

def chunk : Nat → Nat → List MC → List (List MC)
  | 0, _, _ => []
  | n + 1, s, l => l.take s :: chunk n s (l.drop s)

theorem chunk_get : ∀ (n s : Nat) (l : List MC) (i : Nat), (chunk n s l)[i]? = if i < n then some ((l.drop (i * s)).take s) else none
  | 0, s, l, i => by simp [chunk]
  | n + 1, s, l, 0 => by simp [chunk]
  | n + 1, s, l, i + 1 => by
    simp only [chunk, List.getElem?_cons_succ, chunk_get n s (l.drop s) i, List.drop_drop]
    by_cases h : i < n
    · rw [if_pos h, if_pos (by omega)]; congr 3; rw [Nat.add_mul]; omega
    · rw [if_neg h, if_neg (by omega)]
theorem chunk_len : ∀ (n s : Nat) (l : List MC), (chunk n s l).length = n
  | 0, _, _ => rfl
  | n + 1, s, l => by simp [chunk, chunk_len n s (l.drop s)]
theorem chunk_row {n s : Nat} {l : List MC} (h : n * s ≤ l.length) : ∀ r ∈ chunk n s l, r.length = s := fun r hr => by
  obtain ⟨i, hi⟩ := List.getElem?_of_mem hr
  rw [chunk_get] at hi
  split at hi
  · rename_i hlt
    obtain rfl := Option.some.inj hi
    have : (i + 1) * s ≤ n * s := Nat.mul_le_mul_right _ hlt
    rw [Nat.add_mul] at this
    simp; omega
  · cases hi

/-- A new live slice out of cells that read so. -/
theorem arr_new {L : Lay} {F : FF} {w : World} {st' : Sto} {L' : Lay} {st : Sto} {n sz id : Nat} {c : Array Value} {e : TypeId} {res : List MC} {k : Nat} (hc : Cells st L w F res c) (hl : res.length = k * sz)
    (hL : L' id = some (w.heap.size, sz)) (hb : ∀ x ∈ res, x.bd n)
    (hi : ∀ x : MC, x.bd n → ∀ u, RC st L w F x u → RC st' L' (w.alloc (.cells c e (0, 0))) F x u) :
    ObOK st' L' (w.alloc (.cells c e (0, 0))) F id (.arr (chunk k sz res)) :=
  .inr ⟨_, sz, hL, free_alloc _ _ _, chunk_row (by omega), fun i r hr j x hj => by
    rw [chunk_get] at hr
    split at hr
    · obtain rfl := Option.some.inj hr
      rw [List.getElem?_take] at hj
      split at hj
      · rw [List.getElem?_drop] at hj
        obtain ⟨u, h1, h2⟩ := hc.2 _ x hj
        exact ⟨u, by rw [cell_alloc]; exact h1, hi x (hb x (List.mem_of_getElem? hj)) u h2⟩
      · cases hj
    · cases hr⟩

theorem chunk_bd {k sz n : Nat} {res : List MC} (hb : ∀ x ∈ res, x.bd n) : (Ob.arr (chunk k sz res)).bd n := fun r hr x hx => by
  obtain ⟨i, hi⟩ := List.getElem?_of_mem hr
  rw [chunk_get] at hi
  split at hi
  · obtain rfl := Option.some.inj hi
    exact hb x (List.mem_of_mem_drop (List.mem_of_mem_take hx))
  · cases hi

theorem RC.ref_new {L : Lay} {F : FF} {w : World} {st : List (Nat × Ob)} {n k sz : Nat} {c : Array Value} {e : TypeId} {rows : List (List MC)} (hL : L n = some (w.heap.size, sz)) (hk : rows.length = k) (hc : c.size = k * sz) :
    RC (look ((n, .arr rows) :: st)) L (w.alloc (.cells c e (0, 0))) F (.ref n 0 k) (.slice (some ⟨w.heap.size, 0, none⟩) k k) := by
  refine ⟨rfl, fun rows' hr' => ?_⟩
  obtain rfl : rows' = rows := by simpa [look_cons] using hr'.symm
  refine ⟨_, k, rfl, by omega, ?_⟩
  by_cases h0 : k = 0
  · exact .inr ⟨h0, h0⟩
  · refine .inl ⟨_, sz, hL, by simp, Nat.le_refl _, fun e => by subst e; simp at hk; omega, fun j hj => ?_⟩
    rw [cell_alloc]
    have : j < c.size := by rw [hc]; simpa using hj
    simp [this]

def zrep (z : List MC) (k : Nat) : List MC := (List.replicate k z).flatten

theorem zrep_succ (z : List MC) (k : Nat) : zrep z (k + 1) = z ++ zrep z k := by simp [zrep, List.replicate_succ]
theorem zrep_len (z : List MC) : ∀ k, (zrep z k).length = k * z.length
  | 0 => by simp [zrep]
  | k + 1 => by rw [zrep_succ, List.length_append, zrep_len z k, Nat.add_mul]; omega
theorem zrep_get (z : List MC) : ∀ (k j : Nat), j < k * z.length → (zrep z k)[j]? = z[j % z.length]?
  | 0, j, h => by simp at h
  | k + 1, j, h => by
    rw [zrep_succ]
    by_cases hj : j < z.length
    · rw [List.getElem?_append_left hj, Nat.mod_eq_of_lt hj]
    · rw [List.getElem?_append_right (by omega), zrep_get z k (j - z.length) (by rw [Nat.add_mul] at h; omega), ← Nat.mod_eq_sub_mod (by omega)]
theorem zrep_chunk (z : List MC) : ∀ k, chunk k z.length (zrep z k) = List.replicate k z
  | 0 => rfl
  | k + 1 => by
    rw [zrep_succ]
    simp only [chunk, List.take_left', List.drop_left', List.replicate_succ, zrep_chunk z k]

theorem zcells_rep {st : Sto} {L : Lay} {w : World} {F : FF} {zs : List ZC} {z : Array Value} (h : zcells zs z.toList = true) (k : Nat) :
    Cells st L w F (zrep (zs.map ZC.mc) k) ((Array.range (k * zs.length)).map (z[· % z.size]!)) := by
  have hz := zc_ok (st := st) (L := L) (w := w) (F := F) _ _ h
  have hsz : z.size = zs.length := by have := hz.1; simpa using this
  refine ⟨by simp [zrep_len], fun j x hj => ?_⟩
  have hlt : j < k * zs.length := by
    have := (List.getElem?_eq_some_iff.1 hj).1
    simpa [zrep_len] using this
  rw [zrep_get _ _ _ (by simpa using hlt)] at hj
  obtain ⟨u, hu, hr⟩ := hz.2 _ x hj
  refine ⟨u, ?_, hr⟩
  have hu' : z[j % z.size]? = some u := by
    rw [hsz]; simpa using hu
  have hlt' : j % z.size < z.size := (Array.getElem?_eq_some_iff.1 hu').1
  simp only [Array.getElem?_map, Array.getElem?_range, if_pos hlt, Option.map_some]
  rw [getElem!_pos z _ hlt']
  rw [Array.getElem?_eq_getElem hlt'] at hu'
  exact hu'

theorem zrep_bd (zs : List ZC) (k n : Nat) : ∀ x ∈ zrep (zs.map ZC.mc) k, x.bd n := fun x hx => by
  simp only [zrep, List.mem_flatten] at hx
  obtain ⟨l, hl, hx⟩ := hx
  rw [List.eq_of_mem_replicate hl] at hx
  exact zmc_bd zs n x hx

theorem r_make {t e : TypeId} {x : Operand} {ik : IntKind} {n : Int} {i ie : TI} (hT : TOk P T) (ho : o.op = .makeSlice t x x) (hd : Oper.dok o s.m = true)
    (ht : T t = some i) (hk : i.k = .slice e) (he : T e = some ie) (hx : evO s x = some (.one (.sc (.int ik n)))) (hn : 0 ≤ n ∧ n ≤ 281474976710656 ∧ ie.bytes * n ≤ 281474976710656)
    (k : K ((s.new (.arr (List.replicate n.toNat (ie.z.map ZC.mc)))).put o.dst (.one (.ref s.n 0 n.toNat)))) : OpOK P o s K := by
  have hzl : (ie.z.map ZC.mc).length = ie.z.length := by simp
  rw [← zrep_chunk] at k
  refine OpOK.mk (ob := .arr (chunk n.toNat (ie.z.map ZC.mc).length (zrep (ie.z.map ZC.mc) n.toNat))) (Oper.dok_spec hd) (chunk_bd (zrep_bd _ _ _)) (Nat.lt_succ_self _) (fun w0 wr A L F a w h => ?_) k
  obtain ⟨⟨h1, _⟩, _⟩ := evO_ok h hx
  obtain ⟨f, hf, hfs, hfb, _, z, hz, hzc, hz7⟩ := hT.info he
  have hu := run_underlying (hT.und_slice ht hk)
  have hcl := zcells_rep (st := look s.st) (L := L) (w := w) (F := F) hzc n.toNat
  have hc : (Array.range (n.toNat * ie.z.length)).size = n.toNat * ie.z.length := by simp
  refine ⟨(Array.range (n.toNat * ie.z.length)).map (z.cells[· % z.cells.size]!), e, (ie.z.map ZC.mc).length, .slice (some ⟨w.heap.size, 0, none⟩) n.toNat n.toNat, ?_, fun L' hL1 hL2 hi =>
    ⟨arr_new hcl (by rw [zrep_len]) hL1 (zrep_bd _ _ _) hi, RC.ref_new (F := F) hL1 (chunk_len _ _ _) (by simp)⟩⟩
  have hw : IntKind.i64.wrap n = n := by simp [IntKind.wrap, IntKind.bits, IntKind.signed]; omega
  have e1 : ¬ (n < 0) := by omega
  have e2 : ¬ (281474976710656 < (ie.bytes : Int) * n) := by omega
  have hsz : n.toNat * ie.size = n.toNat * ie.z.length := by rw [hz7]
  simp only [execOp, ho, h1, Instr.makeSlice, Sem.run_bind, hu, Result.andThen_ok, asInt, asIntOf, Sem.run_pure, typeInfo, hf, run_program, hw, hfb, Go.sizeOf, hfs, zeroValue, hz, hsz]
  generalize hq : n.toNat * ie.z.length = q at hsz
  cases q with
  | zero =>
    simp [e1, e2, newRow, hf, hfs, hz, typeInfo, hsz]
    have h0 : ∀ g : Nat → Value, (Array.range 0).map g = #[] := fun g => by apply Array.ext'; simp
    rw [h0, h0]
  | succ q => simp [e1, e2, newRow, hf, hfs, hz, typeInfo, hsz]

/-- A slice literal. -/
theorem r_buildSlice {t e : TypeId} {parts : Array (Nat × Operand)} {len : Nat} {i ie : TI} {p : Prop} {res : List MC} (hT : TOk P T) (ho : o.op = .buildSlice t len parts) (hd : Oper.dok o s.m = true)
    (ht : T t = some i) (hk : i.k = .slice e) (he : T e = some ie) (hl : 0 < len ∧ 0 < ie.size ∧ len * ie.size ≤ 16777216)
    (hf : fillM s T (fun j => some (j * ie.size, ie.size)) (zrep (ie.z.map ZC.mc) len) parts.toList = some (p, res)) (hp : p) (hr : res.length = len * ie.size) (hb : ∀ x ∈ res, x.bd s.n)
    (k : K ((s.new (.arr (chunk len ie.size res))).put o.dst (.one (.ref s.n 0 len)))) : OpOK P o s K := by
  refine OpOK.mk (ob := .arr (chunk len ie.size res)) (Oper.dok_spec hd) (chunk_bd hb) (Nat.lt_succ_self _) (fun w0 wr A L F a w h => ?_) k
  obtain ⟨f, hf', hfs, hfb, _, z, hz, hzc, hz7⟩ := hT.info he
  have hu := run_underlying (hT.und_slice ht hk)
  have hcl := zcells_rep (st := look s.st) (L := L) (w := w) (F := F) hzc len
  obtain ⟨arr, e1, e2, e3⟩ := fill_ok (T := T) h _ parts.toList _ _ p res hf hp hcl (zrep_bd _ _ _)
  refine ⟨arr, e, ie.size, .slice (some ⟨w.heap.size, 0, none⟩) len len, ?_, fun L' hL1 hL2 hi => ⟨arr_new e2 hr hL1 hb hi, RC.ref_new (F := F) hL1 (chunk_len _ _ _) (by rw [e2.1]; exact hr)⟩⟩
  have hz0 : ¬ (len * ie.size = 0) := by
    have := Nat.mul_pos hl.1 hl.2.1; omega
  have hz1 : ¬ (len * ie.size > 2 ^ 24) := by omega
  have e1' : Instr.fill (fun (j : Nat) => some (j * ie.size, ie.size)) ((Array.range (len * ie.size)).map (z.cells[· % z.cells.size]!)) (parts.map fun x => (x.1, a.eval x.2)).toList = some arr := by
    rw [hz7] at e1; simpa using e1
  simp only [execOp, ho, Instr.buildSlice, Sem.run_bind, hu, Result.andThen_ok, hT.size he, hz1, if_false, hz0, zeroValue, typeInfo, Sem.run_ite, run_program, hf', hz, Sem.run_pure, Sem.run_map]
  rw [e1']
  rfl

theorem r_buildSlice0 {t e : TypeId} {i ie : TI} (hT : TOk P T) (ho : o.op = .buildSlice t 0 #[]) (hd : Oper.dok o s.m = true)
    (ht : T t = some i) (hk : i.k = .slice e) (he : T e = some ie) (k : K (s.put o.dst (.one .nil))) : OpOK P o s K := by
  intro w0 wr A a w Q K' hg ⟨L, F, hR⟩ hK
  have hu := run_underlying (hT.und_slice ht hk)
  have hrun : (execOp a.eval o).run P w = .ok (.value (.slice (some ⟨w.heap.size, 0, none⟩) 0 0)) (w.alloc (.cells #[] e (0, 0))) := by
    simp [execOp, ho, Instr.buildSlice, hu, hT.size he, Instr.fill, newRow]
    have h0 : ∀ g : Nat → Value, (Array.range 0).map g = #[] := fun g => by apply Array.ext'; simp
    rw [h0]
  unfold Oper.wp
  rw [hrun]
  obtain ⟨L', hal, hLn, hLo⟩ := hR.alloc #[] e 0 (.box []) (fun x hx => by simp at hx) (fun L' h1 h2 h3 => ⟨_, 0, h1, free_alloc _ _ _, fun j x hj => by simp at hj⟩)
  have hfin : Rl w0 wr A L' F s a (w.alloc (.cells #[] e (0, 0))) := hal.weaken ⟨rfl, fun t v hv => ⟨hv, hR.ben t v hv⟩, fun i x hx => ⟨by
    simp only [S.new, look_cons]
    rw [if_neg (fun e => by have := (hR.bst i x hx).1; omega)]; exact hx, hR.bst i x hx⟩⟩ fun i hi => (hR.pin i hi).2
  exact hK _ _ _ ⟨L', F, hfin.put (v := .one .nil) (Oper.dok_spec hd) ⟨_, rfl⟩ trivial⟩ k

end Mg

/- The abstract state logic, part 11: code. No condition. -/
namespace Mg
open Go Go.RowKit
set_option linter.unusedVariables false

variable {P : Program} {T : Tab}

def guardV (all : Array Oper) (s : S) (g : Nat) : Option Bool :=
  ((all[g]?).bind (·.dst)).bind fun d => match look s.env d with
    | some (.one (.sc (.bool b))) => some b
    | _ => none

/-- A guard's slot that was skipped. -/
def guardU (all : Array Oper) (s : S) (g : Nat) : Bool :=
  ((all[g]?).bind (·.dst)).any fun d => match look s.env d with
    | some (.tup []) => true
    | _ => false
theorem un_rv {st : Sto} {L : Lay} {w : World} {F : FF} : RV st L w F (.tup []) undef := ⟨#[], rfl, rfl, fun j x hj => by simp at hj⟩
theorem un_bd {n : Nat} : (MV.tup []).bd n := fun v hv => by simp at hv
theorem guardU_ok {w0 : World} {wr : Wr} {A : Nat → Prop} {L : Lay} {F : FF} {s : S} {a : Act} {w : World} (h : Rl w0 wr A L F s a w) {all : Array Oper} {g : Nat} (hg : guardU all s g = true) :
    yielded all a.tmps g = none := by
  unfold guardU at hg
  unfold yielded
  cases hd : (all[g]?).bind (·.dst) with
  | none => rw [hd] at hg; cases hg
  | some d =>
    rw [hd] at hg
    simp only [Option.any_some] at hg
    split at hg
    · rename_i he
      obtain ⟨arr, h1, h2, _⟩ := h.env d _ he
      simp only [Option.bind_some]
      cases ht : a.tmps[d]? with
      | none => rfl
      | some v =>
        simp [ht] at h1
        rw [h1]
    · cases hg

/-- States that read alike in every slot. -/
structure Lk (s' s : S) : Prop where
  m : s'.m = s.m
  n : s'.n = s.n
  st : s'.st = s.st
  env : ∀ t, look s'.env t = look s.env t
theorem Lk.rfl {s : S} : Lk s s := ⟨Eq.refl _, Eq.refl _, Eq.refl _, fun _ => Eq.refl _⟩
theorem Lk.rl {w0 : World} {wr : Wr} {A : Nat → Prop} {L : Lay} {F : FF} {s s' : S} {a : Act} {w : World} (hl : Lk s' s) (h : Rl w0 wr A L F s a w) : Rl w0 wr A L F s' a w :=
  h.weaken ⟨hl.m, fun t v hv => by
    rw [hl.env] at hv
    exact ⟨hv, by rw [hl.n]; exact h.ben t v hv⟩, fun id o ho => by
    rw [hl.st] at ho
    exact ⟨ho, by rw [hl.n]; exact h.bst id o ho⟩⟩ fun i hi => by rw [hl.n]; exact (h.pin i hi).2

/-- The operations of a region, one behind the other. -/
def Seq (P : Program) (all : Array Oper) : List Oper → S → (S → Prop) → Prop
  | [], s, K => K s
  | o :: rest, s, K => match o.guard with
    | none => OpOK P o s fun s' => Seq P all rest s' K
    | some (g, want) => (∃ b s1, guardV all s g = some b ∧ Lk s1 s ∧ if b = want then OpOK P o s1 (fun s' => Seq P all rest s' K) else Oper.dok o s1.m = true ∧ Seq P all rest (s1.put o.dst (.tup [])) K) ∨
        (guardU all s g = true ∧ Oper.dok o s.m = true ∧ Seq P all rest (s.put o.dst (.tup [])) K)

theorem guardV_ok {w0 : World} {wr : Wr} {A : Nat → Prop} {L : Lay} {F : FF} {s : S} {a : Act} {w : World} (h : Rl w0 wr A L F s a w) {all : Array Oper} {g : Nat} {b : Bool} (hg : guardV all s g = some b) :
    yielded all a.tmps g = some b := by
  unfold guardV at hg
  obtain ⟨d, hd, hm⟩ := Option.bind_eq_some_iff.1 hg
  split at hm
  · rename_i b' he
    obtain rfl := Option.some.inj hm
    obtain ⟨h1, _⟩ := h.env d _ he
    have h1 : a.tmps.getD d undef = .bool b' := h1
    unfold yielded
    rw [hd]
    simp only [Option.bind_some]
    cases ht : a.tmps[d]? with
    | none => simp [ht, undef] at h1
    | some v =>
      simp [ht] at h1
      rw [h1]
  · cases hm

theorem seq_ok {all : Array Oper} {Q : Exit → Act → World → Prop} {w0 : World} {wr : Wr} {A : Nat → Prop} {K : S → Prop} (hgt : GE P w0 wr A) (hQ : ∀ s a w, Rel w0 wr A s a w → K s → Q .normal a w) :
    ∀ (l : List Oper) (s : S) (a : Act) (w : World), Seq P all l s K → Rel w0 wr A s a w → wpList P all Q l a w
  | [], s, a, w, h, hr => hQ s a w hr h
  | o :: rest, s, a, w, h, hr => by
    have ih := fun s a w h hr => seq_ok (all := all) hgt hQ rest s a w h hr
    unfold wpList
    simp only [Seq] at h
    cases hg : o.guard with
    | none =>
      rw [hg] at h
      have hw : Region.wanted o (yielded all a.tmps) = true := by simp [Region.wanted, hg]
      rw [if_pos hw]
      exact .inl (h w0 wr A a w Q _ hgt hr fun s' a' w' hr' hk => ih s' a' w' hk hr')
    | some q =>
      obtain ⟨g, want⟩ := q
      rw [hg] at h
      obtain ⟨L, F, hR⟩ := hr
      rcases h with ⟨b, s1, hb, hl, h⟩ | ⟨hu, hd, h⟩
      rotate_left
      · have hw : Region.wanted o (yielded all a.tmps) = false := by simp [Region.wanted, hg, guardU_ok hR hu]
        rw [if_neg (by simp [hw])]
        exact ih _ _ _ h ⟨L, F, hR.put (Oper.dok_spec hd) un_rv un_bd⟩
      have hy := guardV_ok hR hb
      have hR := hl.rl hR
      by_cases hbw : b = want
      · rw [if_pos hbw] at h
        have hw : Region.wanted o (yielded all a.tmps) = true := by simp [Region.wanted, hg, hy, hbw]
        rw [if_pos hw]
        exact .inl (h w0 wr A a w Q _ hgt ⟨L, F, hR⟩ fun s' a' w' hr' hk => ih s' a' w' hk hr')
      · rw [if_neg hbw] at h
        have hw : Region.wanted o (yielded all a.tmps) = false := by simp [Region.wanted, hg, hy, hbw]
        rw [if_neg (by simp [hw])]
        exact ih _ _ _ h.2 ⟨L, F, hR.put (Oper.dok_spec h.1) un_rv un_bd⟩

/-- What code does from a state. -/
def W (k : Nat) (P : Program) (c : Code) (s : S) (Q : Exit → S → Prop) : Prop :=
  ∀ (w0 : World) (wr : Wr) (A : Nat → Prop) (a : Act) (w : World), (wr.k = k ∧ GE P w0 wr A) → Rel w0 wr A s a w → c.wp P (fun x a' w' => ∃ s', Rel w0 wr A s' a' w' ∧ Q x s') a w

theorem W.mono {k : Nat} {c : Code} {s : S} {Q Q' : Exit → S → Prop} (h : W k P c s Q) (hq : ∀ e s, Q e s → Q' e s) : W k P c s Q' := fun w0 wr A a w hk hr =>
  wp_mono (h w0 wr A a w hk hr) fun e a w ⟨s', h1, h2⟩ => ⟨s', h1, hq e s' h2⟩

theorem W.weaken {k : Nat} {c : Code} {s s' : S} {Q : Exit → S → Prop} (hs : Sub s' s) (hn : k ≤ s'.n) (h : W k P c s' Q) : W k P c s Q := fun w0 wr A a w hk ⟨L, F, hr⟩ =>
  h w0 wr A a w hk ⟨L, F, hr.weaken hs fun i hi => Nat.lt_of_lt_of_le (hk.1 ▸ hi) hn⟩

theorem W.skip {k : Nat} {s : S} {Q : Exit → S → Prop} (h : Q .normal s) : W k P .skip s Q := fun w0 wr A a w hk hr => wp_skip ⟨s, hr, h⟩
theorem W.exit {k : Nat} {s : S} {Q : Exit → S → Prop} {id : Nat} (h : Q (.exit id) s) : W k P (.exit id) s Q := fun w0 wr A a w hk hr => wp_exit ⟨s, hr, h⟩
theorem W.ret {k : Nat} {s : S} {Q : Exit → S → Prop} (h : Q .ret s) : W k P .ret s Q := fun w0 wr A a w hk hr => wp_ret ⟨s, hr, h⟩

/-- Behind the first: the next, or what the exit says. -/
def thn (K : S → Prop) (Q : Exit → S → Prop) : Exit → S → Prop
  | .normal, s => K s
  | e, s => Q e s

theorem W.seq {k : Nat} {x y : Code} {s : S} {Q : Exit → S → Prop} (h : ∀ K : S → Prop, (∀ s, W k P y s Q → K s) → W k P x s (thn K Q)) : W k P (.seq x y) s Q := fun w0 wr A a w hk hr => by
  refine wp_seq (wp_mono (h _ (fun _ h => h) w0 wr A a w hk hr) fun e a w ⟨s', h1, h2⟩ => ?_)
  cases e with
  | normal => exact h2 w0 wr A a w hk h1
  | _ => exact ⟨s', h1, h2⟩

def blk (id : Nat) (Q : Exit → S → Prop) : Exit → S → Prop
  | .exit id', s => if id' = id then Q .normal s else Q (.exit id') s
  | e, s => Q e s

theorem W.block {k : Nat} {id : Nat} {c : Code} {s : S} {Q : Exit → S → Prop} (h : W k P c s (blk id Q)) : W k P (.block id c) s Q := fun w0 wr A a w hk hr => by
  refine wp_block (wp_mono (h w0 wr A a w hk hr) fun e a w ⟨s', h1, h2⟩ => ?_)
  cases e with
  | exit id' =>
    simp only [Exit.inBlock, blk] at h2 ⊢
    split
    · rename_i he; rw [if_pos he] at h2; exact ⟨s', h1, h2⟩
    · rename_i he; rw [if_neg he] at h2; exact ⟨s', h1, h2⟩
  | _ => exact ⟨s', h1, h2⟩

theorem W.cond {k : Nat} {c : Operand} {x y : Code} {s : S} {Q : Exit → S → Prop} {t : Bool} (hc : evO s c = some (.one (.sc (.bool t)))) (h : W k P (if t = true then x else y) s Q) : W k P (.cond c x y) s Q :=
  fun w0 wr A a w hk ⟨L, F, hr⟩ => by
    obtain ⟨⟨h1, _⟩, _⟩ := evO_ok hr hc
    exact wp_cond h1 (h w0 wr A a w hk ⟨L, F, hr⟩)

theorem W.region {k : Nat} {id : Nat} {ops : Array Oper} {s : S} {Q : Exit → S → Prop} (h : Seq P ops ops.toList s fun s' => Q .normal s') : W k P (.region id ops false) s Q := fun w0 wr A a w hk hr =>
  wp_region_list (seq_ok hk.2 (fun s' a' w' h1 h2 => ⟨s', h1, h2⟩) ops.toList s a w h hr)

theorem exists_least (p : Nat → Prop) (h : ∃ n, p n) : ∃ n, p n ∧ ∀ m, p m → n ≤ m := by
  obtain ⟨n, hn⟩ := h
  induction n using Nat.strongRecOn with
  | _ n ih =>
    by_cases hm : ∃ m, m < n ∧ p m
    · obtain ⟨m, h1, h2⟩ := hm; exact ih m h1 h2
    · exact ⟨n, hn, fun m hp => by
        by_cases hlt : m < n
        · exact absurd ⟨m, hlt, hp⟩ hm
        · omega⟩

/-- A loop: what holds at each round's head, with a number that sinks. -/
theorem W.loop {k : Nat} {c : Code} {s : S} {Q : Exit → S → Prop} (I : Nat → S → Prop) (n : Nat) (h0 : I n s) (h : ∀ n s, I n s → W k P c s (thn (fun s' => ∃ m, m < n ∧ I m s') Q)) : W k P (.loop c) s Q := fun w0 wr A a w hk hr => by
  classical
  let p : Act → World → Nat → Prop := fun a w n => ∃ s, Rel w0 wr A s a w ∧ I n s
  let μ : Act → World → Nat := fun a w => if hp : ∃ n, p a w n then Classical.choose (exists_least (p a w) hp) else 0
  have hμ : ∀ a w (hp : ∃ n, p a w n), p a w (μ a w) ∧ ∀ m, p a w m → μ a w ≤ m := fun a w hp => by
    have : μ a w = Classical.choose (exists_least (p a w) hp) := dif_pos hp
    rw [this]
    exact Classical.choose_spec (exists_least (p a w) hp)
  refine wp_loop (fun a w => ∃ n, p a w n) μ ⟨n, s, hr, h0⟩ fun a w hp => ?_
  obtain ⟨⟨s', hr', hi⟩, _⟩ := hμ a w hp
  refine wp_mono (h _ s' hi w0 wr A a w hk hr') fun e a' w' ⟨s'', h1, h2⟩ => ?_
  cases e with
  | normal =>
    obtain ⟨m, hm, him⟩ := h2
    have hp' : ∃ n, p a' w' n := ⟨m, s'', h1, him⟩
    exact ⟨hp', Nat.lt_of_le_of_lt ((hμ a' w' hp').2 m ⟨s'', h1, him⟩) hm⟩
  | _ => exact ⟨s'', h1, h2⟩

end Mg
