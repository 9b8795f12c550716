/- The abstract state logic, part 8: append, copy, make. No condition. -/
import Derived.Test.YthflichlfpmenaaGreatMg7
import Derived.Laws.Append
namespace Mg
open Go Go.RowKit
set_option linter.unusedVariables false

variable {P : Program} {T : Tab} {o : Oper} {s : S} {K : S → Prop}

theorem Rl.rename {w0 : World} {wr : Wr} {A : Nat → Prop} {L : Lay} {F : FF} {a : Act} {w : World} (h : Rl w0 wr A L F s a w) {id : Nat} {ob : Ob} (hid : look s.st id = some ob) :
    ∃ L' : Lay, Rl w0 wr A L' F { s with n := s.n + 1, st := (s.n, ob) :: del s.st id } a w ∧ L' s.n = L id ∧ ∀ j, j ≠ s.n → L' j = L j := by
  let L' : Lay := fun j => if j = s.n then L id else L j
  have hLn : L' s.n = L id := if_pos rfl
  have hLo : ∀ j, j ≠ s.n → L' j = L j := fun j hj => if_neg hj
  have hidn : id < s.n := (h.bst id ob hid).1
  have hnone : look (del s.st id) s.n = none := by
    rw [look_del]; split
    · rfl
    · exact fresh_look h
  have hst : ∀ i, look (del s.st id) i = look s.st i ∨ look (del s.st id) i = none ∨ (look s.st i = none ∧ False) := fun i => by
    rw [look_del]
    by_cases e : i = id
    · rw [if_pos e]; exact .inr (.inl rfl)
    · rw [if_neg e]; exact .inl rfl
  have hi : ∀ x : MC, x.bd s.n → ∀ u, RC (look s.st) L w F x u → RC (look ((s.n, ob) :: del s.st id)) L' w F x u := fun x hx u hr =>
    RC.new hnone (fun _ _ => rfl) hLo (fun _ _ _ _ _ _ h => h) hx (RC.mono (fun _ _ => rfl) .rfl hst (fun _ _ => rfl) (fun _ _ _ _ _ _ h => h) hr)
  have hlk : ∀ i x, look ((s.n, ob) :: del s.st id) i = some x → (i = s.n ∧ x = ob) ∨ (i ≠ s.n ∧ i ≠ id ∧ look s.st i = some x) := fun i x hx => by
    rw [look_cons] at hx
    by_cases e : i = s.n
    · rw [if_pos e] at hx; exact .inl ⟨e, (Option.some.inj hx).symm⟩
    · rw [if_neg e, look_del] at hx
      by_cases e' : i = id
      · rw [if_pos e'] at hx; cases hx
      · rw [if_neg e'] at hx; exact .inr ⟨e, e', hx⟩
  have hsome : ∀ i, (look ((s.n, ob) :: del s.st id) i).isSome = true → (i = s.n) ∨ (i ≠ s.n ∧ i ≠ id ∧ (look s.st i).isSome = true) := fun i hi => by
    obtain ⟨x, hx⟩ := Option.isSome_iff_exists.1 hi
    rcases hlk i x hx with ⟨e, _⟩ | ⟨e, e', hx'⟩
    · exact .inl e
    · exact .inr ⟨e, e', by rw [hx']; rfl⟩
  refine ⟨L', ⟨h.os, h.tape, h.output, h.size, h.keep, h.kc, fun i hi => ⟨(hLo i (Nat.ne_of_lt (h.pin i hi).2)).trans (h.pin i hi).1, Nat.lt_succ_of_lt (h.pin i hi).2⟩, h.fa, h.fn, h.fsz, ?_, ?_, ?_, h.sz, ?_, ?_, ?_, h.df⟩, hLn, hLo⟩
  · intro i x hx
    rcases hlk i x hx with ⟨rfl, rfl⟩ | ⟨e, e', hx'⟩
    · have := (h.ob id x hid)
      have hb := (h.bst id x hid).2
      cases x with
      | box cs =>
        obtain ⟨b, t, h1, h2, h3⟩ := this
        exact ⟨b, t, by rw [hLn]; exact h1, h2, h3.imp (fun _ => rfl) fun y hy => hi y (hb y hy)⟩
      | arr rows =>
        rcases this with ⟨h1, h2⟩ | ⟨b, t, h1, h2, h3, h4⟩
        · exact .inl ⟨h1, by rw [hLn]; exact h2⟩
        · exact .inr ⟨b, t, by rw [hLn]; exact h1, h2, h3, fun j r hj => (h4 j r hj).imp (fun _ => rfl) fun y hy => hi y (hb r (List.mem_of_getElem? hj) y hy)⟩
    · exact (h.ob i x hx').imp (h.bst i x hx').2 (hLo i e) (fun _ _ _ => rfl) hi
  · intro i b t h1 h2
    rcases hsome i h1 with rfl | ⟨e, e', hx'⟩
    · rw [hLn] at h2; exact h.own id b t (by simp [hid]) h2
    · rw [hLo i e] at h2; exact h.own i b t hx' h2
  · intro i j b t u h1 h2 h3 h4
    rcases hsome i h1 with ei | ⟨ei, ei', hxi⟩ <;> rcases hsome j h2 with ej | ⟨ej, ej', hxj⟩
    · rw [ei, ej]
    · rw [ei, hLn] at h3; rw [hLo j ej] at h4
      exact absurd (h.inj j id b u t hxj (by simp [hid]) h4 h3) ej'
    · rw [ej, hLn] at h4; rw [hLo i ei] at h3
      exact absurd (h.inj i id b t u hxi (by simp [hid]) h3 h4) ei'
    · rw [hLo i ei] at h3; rw [hLo j ej] at h4
      exact h.inj i j b t u hxi hxj h3 h4
  · exact fun t v hv => (h.env t v hv).imp (h.ben t v hv) hi
  · intro i x hx
    rcases hlk i x hx with ⟨rfl, rfl⟩ | ⟨e, e', hx'⟩
    · exact ⟨Nat.lt_succ_self _, (h.bst id x hid).2.mono (Nat.le_succ _)⟩
    · exact ⟨Nat.lt_succ_of_lt (h.bst i x hx').1, (h.bst i x hx').2.mono (Nat.le_succ _)⟩
  · exact fun t v hv => (h.ben t v hv).mono (Nat.le_succ _)

/-- The rows of a slice. -/
def rowsOf (s : S) : MC → Option (List (List MC))
  | .nil => some []
  | .fz rows => some rows
  | .ag rows => some (rows.map (·.map MC.toA))
  | .ref id off len => match look s.st id with
    | some (.arr rows) => some ((rows.drop off).take len)
    | _ => none
  | _ => none

/-- Values that read as rows, one behind the other. -/
def Flat (st : Sto) (L : Lay) (w : World) (F : FF) (n sz : Nat) (rows : List (List MC)) (news : List Value) : Prop :=
  news.length = rows.length * sz ∧ (∀ u ∈ news, u.oneCell' = true) ∧ (∀ r ∈ rows, ∀ c ∈ r, c.bd n) ∧
    ∀ i j r c, rows[i]? = some r → r[j]? = some c → ∃ u, news[i * sz + j]? = some u ∧ RC st L w F c u

theorem flat_of {st : Sto} {L : Lay} {w : World} {F : FF} {n sz b p : Nat} {rows : List (List MC)} (hs : ∀ r ∈ rows, r.length = sz) (hb : ∀ r ∈ rows, ∀ c ∈ r, c.bd n)
    (h : ∀ (i : Nat) (r : List MC), rows[i]? = some r → WC st L w F b (p + i * sz) r) :
    Flat st L w F n sz rows (vals w b p (rows.length * sz)) ∧ ∀ (j : Nat) (v : Value), (vals w b p (rows.length * sz))[j]? = some v → w.cell? ⟨b, p + j, none⟩ = some v := by
  have key : ∀ k, k < rows.length * sz → ∃ u, w.cell? ⟨b, p + k, none⟩ = some u ∧ u.oneCell' = true := fun k hk => by
    have hz : 0 < sz := Nat.pos_of_ne_zero (fun e => by subst e; simp at hk)
    have hi : k / sz < rows.length := (Nat.div_lt_iff_lt_mul hz).2 hk
    have hr := hs _ (List.getElem_mem hi)
    have hj : k % sz < (rows[k / sz]).length := by rw [hr]; exact Nat.mod_lt _ hz
    obtain ⟨u, hu, hru⟩ := h (k / sz) _ (List.getElem?_eq_getElem hi) (k % sz) _ (List.getElem?_eq_getElem hj)
    refine ⟨u, ?_, hru.one⟩
    have : p + k / sz * sz + k % sz = p + k := by have := Nat.div_add_mod' k sz; omega
    rwa [this] at hu
  refine ⟨⟨by simp [vals], fun u hu => ?_, hb, fun i j r c hi hj => ?_⟩, fun j v hj => ?_⟩
  · simp only [vals, List.mem_map, List.mem_range] at hu
    obtain ⟨k, hk, rfl⟩ := hu
    obtain ⟨u, hu, h1⟩ := key k hk
    simp [hu, h1]
  · obtain ⟨u, hu, hru⟩ := h i r hi j c hj
    refine ⟨u, ?_, hru⟩
    have hlen : j < sz := by
      have := (List.getElem?_eq_some_iff.1 hj).1
      rwa [hs r (List.mem_of_getElem? hi)] at this
    have hil : i < rows.length := (List.getElem?_eq_some_iff.1 hi).1
    have hlt : i * sz + j < rows.length * sz := by
      have : (i + 1) * sz ≤ rows.length * sz := Nat.mul_le_mul_right _ hil
      rw [Nat.add_mul] at this; omega
    simp [vals, List.getElem?_range hlt]
    rw [show p + (i * sz + j) = p + i * sz + j by omega, hu]; rfl
  · have hlt : j < rows.length * sz := by
      have := (List.getElem?_eq_some_iff.1 hj).1
      simpa [vals] using this
    obtain ⟨u, hu, _⟩ := key j hlt
    simp [vals, List.getElem?_range hlt, hu] at hj
    subst hj; exact hu

theorem src_cells {w0 : World} {wr : Wr} {A : Nat → Prop} {L : Lay} {F : FF} {a : Act} {w : World} (h : Rl w0 wr A L F s a w) {c : MC} {v : Value} {rows : List (List MC)} {sz : Nat}
    (hc : RC (look s.st) L w F c v) (hr : rowsOf s c = some rows) (hs : ∀ r ∈ rows, r.length = sz) :
    ∃ b cap news, v = .slice b rows.length cap ∧ rows.length ≤ cap ∧ Flat (look s.st) L w F s.n sz rows news ∧
      ∀ w' : World, w'.heap = w.heap → (Builtin.firstCells sz rows.length v).run P w' = .ok news.toArray w' := by
  have hcell : ∀ w' : World, w'.heap = w.heap → ∀ x, w'.cell? x = w.cell? x := fun w' hw x => World.cell?_of_block (by rw [hw])
  have hload : ∀ (b p cap : Nat), (∀ (j : Nat) (v : Value), (vals w b p (rows.length * sz))[j]? = some v → w.cell? ⟨b, p + j, none⟩ = some v) → ∀ w' : World, w'.heap = w.heap →
      (Builtin.firstCells sz rows.length (.slice (some ⟨b, p, none⟩) rows.length cap)).run P w' = .ok (vals w b p (rows.length * sz)).toArray w' := fun b p cap hv w' hw =>
    run_firstCells_some (P := P) w' sz rows.length ⟨b, p, none⟩ rows.length cap _ (by simp [vals]) (fun j v hj => by rw [Addr.add_mid, hcell w' hw]; exact hv j v hj)
  have hnil : ∀ (b : Option Addr) (cap : Nat), rows = [] → ∀ w' : World, w'.heap = w.heap → (Builtin.firstCells sz rows.length (.slice b rows.length cap)).run P w' = .ok ([] : List Value).toArray w' := fun b cap hn w' _ => by
    subst hn
    cases b with
    | none => simp [run_firstCells_none]
    | some b => exact run_firstCells_some (P := P) w' sz 0 b 0 cap [] (by simp) (fun j v hj => by simp at hj)
  cases c with
  | nil =>
    obtain rfl := Option.some.inj hr
    obtain ⟨b, rfl⟩ := hc
    exact ⟨b, 0, [], rfl, Nat.le_refl _, ⟨by simp, fun _ h => by simp at h, fun _ h => by simp at h, fun i j r c hi => by simp at hi⟩, hnil b 0 rfl⟩
  | fz rows' =>
    obtain rfl := Option.some.inj hr
    obtain ⟨b, cap, rfl, hcap, hb⟩ := RF.fz_inv hc
    by_cases hn : rows' = []
    · subst hn
      exact ⟨b, cap, [], rfl, hcap, ⟨by simp, fun _ h => by simp at h, fun _ h => by simp at h, fun i j r c hi => by simp at hi⟩, hnil b cap rfl⟩
    · obtain ⟨blk, off, st, rfl, hF, hst, hcs⟩ := hb hn
      have hse : st = sz := by
        obtain ⟨r0, rs, rfl⟩ := List.exists_cons_of_ne_nil hn
        rw [← hst r0 (by simp), hs r0 (by simp)]
      subst hse
      obtain ⟨h1, h2⟩ := flat_of (st := look s.st) (L := L) (w := w) (F := F) (n := s.n) (b := blk) (p := off) hs (fun r hr c hc => by
        obtain ⟨i, hi⟩ := List.getElem?_of_mem hr
        obtain ⟨j, hj⟩ := List.getElem?_of_mem hc
        obtain ⟨u, _, hu⟩ := hcs i j r c hi hj
        exact MC.bd_frz hu.frz) (fun i r hi j c hj => by
        obtain ⟨u, hu, hru⟩ := hcs i j r c hi hj
        exact ⟨u, by rw [Nat.add_assoc]; exact hu, RC.of_RF hru⟩)
      exact ⟨_, cap, _, rfl, hcap, h1, hload blk off cap h2⟩
  | ag rows' =>
    obtain rfl := Option.some.inj hr
    have hc : RF w F.all (.fz rows') v := hc
    obtain ⟨b, cap, rfl, hcap, hb⟩ := RF.fz_inv hc
    have hlm : (rows'.map (·.map MC.toA)).length = rows'.length := by simp
    have hget : ∀ (i : Nat) (r : List MC), (rows'.map (·.map MC.toA))[i]? = some r → ∃ r', rows'[i]? = some r' ∧ r = r'.map MC.toA := fun i r hi => by
      rw [List.getElem?_map] at hi
      obtain ⟨y, hy, rfl⟩ := Option.map_eq_some_iff.1 hi
      exact ⟨y, hy, rfl⟩
    have hget2 : ∀ (j : Nat) (r' : List MC) (x : MC), (r'.map MC.toA)[j]? = some x → ∃ y, r'[j]? = some y ∧ x = y.toA := fun j r' x hj => by
      rw [List.getElem?_map] at hj
      obtain ⟨y, hy, rfl⟩ := Option.map_eq_some_iff.1 hj
      exact ⟨y, hy, rfl⟩
    rw [← hlm] at hcap ⊢
    by_cases hn : rows' = []
    · subst hn
      exact ⟨b, cap, [], rfl, hcap, ⟨by simp, fun _ h => by simp at h, fun _ h => by simp at h, fun i j r c hi => by simp at hi⟩, hnil b cap rfl⟩
    · obtain ⟨blk, off, st, rfl, hF, hst, hcs⟩ := hb hn
      have hse : st = sz := by
        obtain ⟨r0, rs, rfl⟩ := List.exists_cons_of_ne_nil hn
        rw [← hst r0 (by simp), ← hs (r0.map MC.toA) (by simp)]; simp
      subst hse
      obtain ⟨h1, h2⟩ := flat_of (st := look s.st) (L := L) (w := w) (F := F) (n := s.n) (b := blk) (p := off) hs (fun r hr c hc => by
        obtain ⟨i, hi⟩ := List.getElem?_of_mem hr
        obtain ⟨j, hj⟩ := List.getElem?_of_mem hc
        obtain ⟨r', hr', rfl⟩ := hget i r hi
        obtain ⟨c', hc', rfl⟩ := hget2 j r' c hj
        obtain ⟨u, _, hu⟩ := hcs i j r' c' hr' hc'
        exact MC.bd_toA hu.frz) (fun i r hi j c hj => by
        obtain ⟨r', hr', rfl⟩ := hget i r hi
        obtain ⟨c', hc', rfl⟩ := hget2 j r' c hj
        obtain ⟨u, hu, hru⟩ := hcs i j r' c' hr' hc'
        exact ⟨u, by rw [Nat.add_assoc]; exact hu, RC.of_RFa hru⟩)
      exact ⟨_, cap, _, rfl, hcap, h1, hload blk off cap h2⟩
  | ref id off len =>
    simp only [rowsOf] at hr
    split at hr
    · rename_i rows' ho
      obtain rfl := Option.some.inj hr
      obtain ⟨b, cap, hv, hle, hx⟩ := hc.2 rows' ho
      have hlen : ((rows'.drop off).take len).length = len := by simp; omega
      by_cases hn : len = 0
      · subst hn
        have he : (rows'.drop off).take 0 = [] := rfl
        rw [he] at *
        exact ⟨b, cap, [], hv, Nat.zero_le _, ⟨by simp, fun _ h => by simp at h, fun _ h => by simp at h, fun i j r c hi => by simp at hi⟩, hv ▸ hnil b cap rfl⟩
      · obtain ⟨blk, st, cap', hL, hv', _, hcap, _, _, hs', hw⟩ := ref_row h hc ho hn
        have hse : st = sz := by
          have h0 : ((rows'.drop off).take len)[0]? = some (rows'.getD off []) := by
            rw [List.getElem?_take, if_pos (by omega), List.getElem?_drop]
            simp [List.getElem?_eq_getElem (show off < rows'.length by omega)]
          have h1 := hs _ (List.mem_of_getElem? h0)
          rw [← h1, hs']
          rw [List.getElem?_take, if_pos (by omega), List.getElem?_drop] at h0
          exact List.mem_of_getElem? h0
        subst hse
        have hbd := (h.bst id _ ho).2
        obtain ⟨h1, h2⟩ := flat_of (st := look s.st) (L := L) (w := w) (F := F) (n := s.n) (b := blk) (p := off * st) hs (fun r hr c hc =>
          hbd r (List.mem_of_mem_drop (List.mem_of_mem_take hr)) c hc) (fun i r hi j c hj => by
          rw [List.getElem?_take] at hi
          split at hi
          · rw [List.getElem?_drop] at hi
            have := hw _ r hi j c hj
            rwa [Nat.add_mul] at this
          · cases hi)
        refine ⟨_, cap', _, by rw [hlen]; exact hv', by omega, h1, ?_⟩
        have := hload blk (off * st) cap' h2
        rw [hlen] at this ⊢
        rw [hv']; exact this
    · cases hr
  | _ => cases hr

theorem Flat.append_get {st : Sto} {L : Lay} {w : World} {F : FF} {n sz : Nat} {r1 r2 : List (List MC)} {n1 n2 : List Value} (h1 : Flat st L w F n sz r1 n1) (h2 : Flat st L w F n sz r2 n2) :
    Flat st L w F n sz (r1 ++ r2) (n1 ++ n2) := by
  refine ⟨by simp [h1.1, h2.1, Nat.add_mul], fun u hu => ?_, fun r hr => ?_, fun i j r c hi hj => ?_⟩
  · rcases List.mem_append.1 hu with hu | hu
    · exact h1.2.1 u hu
    · exact h2.2.1 u hu
  · rcases List.mem_append.1 hr with hr | hr
    · exact h1.2.2.1 r hr
    · exact h2.2.2.1 r hr
  · by_cases hlt : i < r1.length
    · rw [List.getElem?_append_left hlt] at hi
      obtain ⟨u, hu, hru⟩ := h1.2.2.2 i j r c hi hj
      refine ⟨u, ?_, hru⟩
      rw [List.getElem?_append_left (List.getElem?_eq_some_iff.1 hu).1]; exact hu
    · rw [List.getElem?_append_right (by omega)] at hi
      obtain ⟨u, hu, hru⟩ := h2.2.2.2 _ j r c hi hj
      refine ⟨u, ?_, hru⟩
      have he : i * sz = r1.length * sz + (i - r1.length) * sz := by rw [← Nat.add_mul]; congr 1; omega
      rw [List.getElem?_append_right (by rw [h1.1]; omega), h1.1, show i * sz + j - r1.length * sz = (i - r1.length) * sz + j by omega]
      exact hu

end Mg
