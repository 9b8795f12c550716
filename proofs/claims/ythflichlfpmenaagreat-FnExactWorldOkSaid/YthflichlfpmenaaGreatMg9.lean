/- The abstract state logic, part 9: append, copy, make. No condition. -/
import Derived.Test.YthflichlfpmenaaGreatMg8
namespace Mg
open Go Go.RowKit
set_option linter.unusedVariables false

variable {P : Program} {T : Tab} {o : Oper} {s : S} {K : S → Prop}

/-- An object of rows out of a block whose first cells read so. -/
theorem arr_of_flat {st st' : Sto} {L L' : Lay} {w w' : World} {F : FF} {n sz b id : Nat} {rows : List (List MC)} {news : List Value} (h : Flat st L w F n sz rows news)
    (hs : ∀ r ∈ rows, r.length = sz) (hL : L' id = some (b, sz)) (hf : Free w' b) (hw : ∀ (j : Nat) (v : Value), news[j]? = some v → w'.cell? ⟨b, j, none⟩ = some v)
    (hi : ∀ x : MC, x.bd n → ∀ u, RC st L w F x u → RC st' L' w' F x u) : ObOK st' L' w' F id (.arr rows) :=
  .inr ⟨b, sz, hL, hf, hs, fun i r hr j x hj => by
    obtain ⟨u, hu, hru⟩ := h.2.2.2 i j r x hr hj
    exact ⟨u, hw _ u hu, hi x (h.2.2.1 r (List.mem_of_getElem? hr) x (List.mem_of_getElem? hj)) u hru⟩⟩

/-- What stands where 'append' may add: nil, or a live slice, whole. -/
def base? (s : S) : MC → Option (List (List MC) × List (Nat × Ob))
  | .nil => some ([], s.st)
  | .ref id off len => match look s.st id with
    | some (.arr rows) => if off = 0 then some (rows, del s.st id) else none
    | _ => none
  | _ => none

def S.app (s : S) (rows : List (List MC)) (st : List (Nat × Ob)) : S := { s with n := s.n + 1, st := (s.n, .arr rows) :: st }

theorem RV.of_one {st : Sto} {L : Lay} {w : World} {F : FF} {c : MC} {v : Value} (h : RV st L w F (.one c) v) : RC st L w F c v := h

theorem del_fresh {α : Type} : ∀ (l : List (Nat × α)) (n : Nat), (∀ i x, look l i = some x → i < n) → ∀ i x, look (del l n) i = some x → look l i = some x
  | l, n, h, i, x, hx => by
    rw [look_del] at hx
    split at hx
    · cases hx
    · exact hx

/-- An empty object without a block. -/
theorem Rl.virt {w0 : World} {wr : Wr} {A : Nat → Prop} {L : Lay} {F : FF} {a : Act} {w : World} (h : Rl w0 wr A L F s a w) :
    ∃ L' : Lay, Rl w0 wr A L' F (s.app [] s.st) a w ∧ L' s.n = none ∧ (∀ j, j ≠ s.n → L' j = L j) ∧
      (∀ x : MC, x.bd s.n → ∀ u, RC (look s.st) L w F x u → RC (look (s.app [] s.st).st) L' w F x u) := by
  let L' : Lay := fun j => if j = s.n then none else L j
  have hLn : L' s.n = none := if_pos rfl
  have hLo : ∀ j, j ≠ s.n → L' j = L j := fun j hj => if_neg hj
  have hn := fresh_look h
  have hi : ∀ x : MC, x.bd s.n → ∀ u, RC (look s.st) L w F x u → RC (look (s.app [] s.st).st) L' w F x u := fun x hx u hr =>
    RC.new hn (fun _ _ => rfl) hLo (fun _ _ _ _ _ _ h => h) hx hr
  have hlk : ∀ i x, look (s.app [] s.st).st i = some x → (i = s.n ∧ x = .arr []) ∨ (i ≠ s.n ∧ look s.st i = some x) := fun i x hx => by
    simp only [S.app, look_cons] at hx
    by_cases e : i = s.n
    · rw [if_pos e] at hx; exact .inl ⟨e, (Option.some.inj hx).symm⟩
    · rw [if_neg e] at hx; exact .inr ⟨e, hx⟩
  have hsome : ∀ i b t, (look (s.app [] s.st).st i).isSome = true → L' i = some (b, t) → i ≠ s.n ∧ (look s.st i).isSome = true ∧ L i = some (b, t) := fun i b t hi hL => by
    obtain ⟨x, hx⟩ := Option.isSome_iff_exists.1 hi
    rcases hlk i x hx with ⟨rfl, _⟩ | ⟨e, hx'⟩
    · rw [hLn] at hL; cases hL
    · exact ⟨e, by rw [hx']; rfl, by rw [← hLo i e]; exact hL⟩
  refine ⟨L', ⟨h.os, h.tape, h.output, h.size, h.keep, h.kc, fun i hi => ⟨(hLo i (Nat.ne_of_lt (h.pin i hi).2)).trans (h.pin i hi).1, Nat.lt_succ_of_lt (h.pin i hi).2⟩, h.fa, h.fn, h.fsz, ?_, ?_, ?_, h.sz, ?_, ?_, ?_, h.df⟩, hLn, hLo, hi⟩
  · intro i x hx
    rcases hlk i x hx with ⟨rfl, rfl⟩ | ⟨e, hx'⟩
    · exact .inl ⟨rfl, hLn⟩
    · exact (h.ob i x hx').imp (h.bst i x hx').2 (hLo i e) (fun _ _ _ => rfl) hi
  · intro i b t h1 h2
    obtain ⟨_, h3, h4⟩ := hsome i b t h1 h2
    exact h.own i b t h3 h4
  · intro i j b t u h1 h2 h3 h4
    obtain ⟨_, h5, h6⟩ := hsome i b t h1 h3
    obtain ⟨_, h7, h8⟩ := hsome j b u h2 h4
    exact h.inj i j b t u h5 h7 h6 h8
  · exact fun t v hv => (h.env t v hv).imp (h.ben t v hv) hi
  · intro i x hx
    rcases hlk i x hx with ⟨rfl, rfl⟩ | ⟨e, hx'⟩
    · exact ⟨Nat.lt_succ_self _, fun r hr => by simp at hr⟩
    · exact ⟨Nat.lt_succ_of_lt (h.bst i x hx').1, (h.bst i x hx').2.mono (Nat.le_succ _)⟩
  · exact fun t v hv => (h.ben t v hv).mono (Nat.le_succ _)

theorem Rl.drop {w0 : World} {wr : Wr} {A : Nat → Prop} {L : Lay} {F : FF} {a : Act} {w : World} (h : Rl w0 wr A L F s a w) (id : Nat) :
    Rl w0 wr A L F { s with st := del s.st id } a w := h.weaken ⟨rfl, fun t v hv => ⟨hv, h.ben t v hv⟩, fun i x hx => by
  have hx : look (del s.st id) i = some x := hx
  rw [look_del] at hx
  split at hx
  · cases hx
  · exact ⟨hx, h.bst i x hx⟩⟩ fun i hi => (h.pin i hi).2

theorem base_st {c : MC} {rows : List (List MC)} {st : List (Nat × Ob)} (hb : base? s c = some (rows, st)) : st = s.st ∨ ∃ id, st = del s.st id := by
  cases c with
  | nil => simp [base?] at hb; exact .inl hb.2.symm
  | ref id off len =>
    simp only [base?] at hb
    split at hb
    · split at hb
      · exact .inr ⟨id, (Prod.mk.inj (Option.some.inj hb)).2.symm⟩
      · cases hb
    · cases hb
  | _ => simp [base?] at hb

theorem r_append {x y : Operand} {t t2 e : TypeId} {c d : MC} {rows rows2 : List (List MC)} {st : List (Nat × Ob)} {i ie i2 : TI} (hT : TOk P T)
    (ho : o.op = .call { callee := .builtin .append, args := #[x, y], argTypes := #[t, t2] }) (hd : Oper.dok o s.m = true)
    (ht : T t = some i) (hk : i.k = .slice e) (he : T e = some ie) (ht2 : T t2 = some i2) (hk2 : i2.k = .slice e) (hx : evO s x = some (.one c)) (hy : evO s y = some (.one d))
    (hb : base? s c = some (rows, st)) (hl : ∀ id off len, c = .ref id off len → len = rows.length) (hr : rowsOf s d = some rows2)
    (hs : ∀ r ∈ rows, r.length = ie.size) (hs2 : ∀ r ∈ rows2, r.length = ie.size)
    (hsz : (rows.length + rows2.length) * ie.bytes ≤ 140737488355328) (hsz' : rows.length + rows2.length ≤ 140737488355328)
    (k : K ((s.app (rows ++ rows2) st).put o.dst (.one (.ref s.n 0 (rows.length + rows2.length))))) : OpOK P o s K := by
  intro w0 wr A a w Q K' ⟨L, F, hR⟩ hK
  obtain ⟨h1, hb1⟩ := evO_ok hR hx
  obtain ⟨h2, hb2⟩ := evO_ok hR hy
  have h1 := h1.of_one
  have h2 := h2.of_one
  have hu := hT.und_slice ht hk
  have hu2 := hT.und_slice ht2 hk2
  obtain ⟨f, hf, hfs, hfb, _, z, hz, hzc, h7⟩ := hT.info he
  -- the base's rows, its source of cells
  have hrb : rowsOf s c = some rows := by
    cases c with
    | nil => simp [base?] at hb; simp [rowsOf, hb.1]
    | ref id off len =>
      simp only [base?] at hb
      split at hb
      · rename_i rows' hlk
        split at hb
        · rename_i h0
          obtain ⟨rfl, rfl⟩ := Prod.mk.inj (Option.some.inj hb)
          have := hl id off len rfl
          subst h0
          subst this
          simp [rowsOf, hlk]
        · cases hb
      · cases hb
    | _ => simp [base?] at hb
  obtain ⟨bb, bc, olds, hbv, hbcap, hfo, hlo⟩ := src_cells (P := P) hR h1 hrb hs
  obtain ⟨sb, sc, news, hsv, hscap, hfn, hln⟩ := src_cells (P := P) hR h2 hr hs2
  have hall : ∀ r ∈ rows ++ rows2, r.length = ie.size := fun r hr' => by
    rcases List.mem_append.1 hr' with h | h
    · exact hs r h
    · exact hs2 r h
  have hflat := hfo.append_get hfn
  have hzeros : ∀ w, (match (some t2 : Option TypeId) with | some xType => (do pure ((← underlying xType) matches .int _) : Sem Bool) | none => pure false).run P w = .ok false w := fun w => by
    simp [run_underlying hu2]
  unfold Oper.wp
  have hcases : (rows = [] ∧ bc = 0) ∨ ∃ id b, c = .ref id 0 rows.length ∧ look s.st id = some (.arr rows) ∧ st = del s.st id ∧ L id = some (b, ie.size) ∧ bb = some ⟨b, 0, none⟩ ∧ rows ≠ [] ∧
      (∀ j, j < bc * ie.size → (w.cell? ⟨b, j, none⟩).isSome = true) := by
    cases c with
    | nil =>
      simp [base?] at hb
      obtain ⟨a', ha'⟩ := h1
      rw [hbv] at ha'
      injection ha' with _ _ h5
      exact .inl ⟨hb.1, h5⟩
    | ref id off len =>
      simp only [base?] at hb
      split at hb
      · rename_i rows' hlk
        split at hb
        · rename_i h0
          obtain ⟨rfl, rfl⟩ := Prod.mk.inj (Option.some.inj hb)
          have hlen := hl id off len rfl
          subst h0
          subst hlen
          obtain ⟨a', cap', hv', _, hx'⟩ := h1.2 rows' hlk
          rw [hbv] at hv'
          injection hv' with h5 _ h6
          rcases hx' with ⟨b, st', hL, rfl, _, hne, hcs⟩ | ⟨h7, h8⟩
          · refine .inr ⟨id, b, rfl, hlk, rfl, ?_, by rw [h5, Nat.zero_mul], hne, ?_⟩
            all_goals
              rcases hR.ob id _ hlk with ⟨h9, _⟩ | ⟨b', st'', hL', _, hs', _⟩
              · exact absurd h9 hne
              · rw [hL] at hL'
                obtain ⟨rfl, rfl⟩ := Prod.mk.inj (Option.some.inj hL')
                obtain ⟨r0, rs, hrr⟩ := List.exists_cons_of_ne_nil hne
                have : st' = ie.size := by rw [← hs' r0 (by rw [hrr]; simp), hs r0 (by rw [hrr]; simp)]
                subst this
                first
                  | exact hL
                  | (intro j hj; exact hcs j (by rw [Nat.zero_add, ← h6]; exact hj))
          · exact .inl ⟨List.eq_nil_of_length_eq_zero h7, by omega⟩
        · cases hb
      · cases hb
    | _ => simp [base?] at hb
  have hdrop : ∀ {F : FF} {L : Lay} {w : World} {s' : S}, Rl w0 wr A L F s' a w → s'.st = s.st → Rl w0 wr A L F { s' with st := st } a w := fun {F L w s'} h he => by
    rcases base_st hb with rfl | ⟨id, rfl⟩
    · rw [← he]; exact h
    · rw [← he]; exact h.drop id
  by_cases hroom : rows.length + rows2.length ≤ bc
  · -- room
    rcases hcases with ⟨rfl, rfl⟩ | ⟨id, b, rfl, hlk, rfl, hL, rfl, hne, hcs⟩
    · obtain rfl : rows2 = [] := by simpa using hroom
      have hrun : (execOp a.eval o).run P w = .ok (.value (.slice bb 0 0)) w := by
        have h3 := hln w rfl
        have hnl : news = [] := List.eq_nil_of_length_eq_zero (by simpa using hfn.1)
        subst hnl
        simp only [execOp, ho, resolve, invoke, builtin, Sem.run_bind, Sem.run_pure, Result.andThen_ok, List.map_toArray, List.map_cons, List.map_nil]
        rw [hbv, hsv]
        rw [hsv] at h3
        cases bb <;> simp [Builtin.append_, run_underlying hu, run_underlying hu2, hT.size he, Builtin.lenOf, h3, storeCells] at h3 ⊢ <;> simp [h3, storeCells]
      rw [hrun]
      obtain ⟨L', hfin, _⟩ := (hdrop hR rfl).virt
      refine hK _ _ _ ⟨L', F, hfin.put (Oper.dok_spec hd) ?_ (Nat.lt_succ_self _)⟩ k
      exact ⟨rfl, fun rows' hr' => ⟨bb, 0, rfl, by simp, .inr ⟨rfl, rfl⟩⟩⟩
    · have hst0 : True := trivial
      rcases hR.ob id _ hlk with ⟨h99, _⟩ | ⟨b', st'', hL', hfree, hs', hw⟩
      · exact absurd h99 hne
      · rw [hL] at hL'
        obtain ⟨rfl, rfl⟩ := Prod.mk.inj (Option.some.inj hL')
        have hnl : news.length = rows2.length * ie.size := hfn.1
        have hcells : ∀ j, j < news.length → (w.cell? ⟨b, rows.length * ie.size + j, none⟩).isSome = true := fun j hj => hcs _ (by
          have : (rows.length + rows2.length) * ie.size ≤ bc * ie.size := Nat.mul_le_mul_right _ hroom
          rw [Nat.add_mul] at this; omega)
        have hst := run_storeCells_cells (P := P) b (rows.length * ie.size) news 0 w (by simpa using hcells) (fun j _ => hfree _) hfn.2.1
        simp only [Nat.add_zero] at hst
        have hrun : (execOp a.eval o).run P w = .ok (.value (.slice (some ⟨b, 0, none⟩) (rows.length + rows2.length) bc)) (w.setCells b (rows.length * ie.size) news) := by
          have h3 := hln w rfl
          simp only [execOp, ho, resolve, invoke, builtin, Sem.run_bind, Sem.run_pure, Result.andThen_ok, List.map_toArray, List.map_cons, List.map_nil]
          rw [hbv, hsv]
          rw [hsv] at h3
          simp [Builtin.append_, run_underlying hu, run_underlying hu2, hT.size he, Builtin.lenOf, hroom, h3, Addr.add_mid, hst]
        rw [hrun]
        have hbd' : (Ob.arr (rows ++ rows2)).bd s.n := hflat.2.2.1
        have hfz : Free (w.setCells b (rows.length * ie.size) news) b := fun j => by rw [World.frozen?_setCells]; exact hfree j
        have hstore := hR.store (p := rows.length * ie.size) (o' := .arr (rows ++ rows2)) hlk hL (by simp [Ob.like]) hcells hbd' (fun hi => by
          refine .inr ⟨b, ie.size, hL, hfz, hall, fun i r hri j x hj => ?_⟩
          have hjz : j < ie.size := by
            have := (List.getElem?_eq_some_iff.1 hj).1
            rwa [hall r (List.mem_of_getElem? hri)] at this
          by_cases hlt : i < rows.length
          · rw [List.getElem?_append_left hlt] at hri
            obtain ⟨u, hu', hru⟩ := hw i r hri j x hj
            refine ⟨u, ?_, hi x u hru⟩
            have : (i + 1) * ie.size ≤ rows.length * ie.size := Nat.mul_le_mul_right _ hlt
            rw [Nat.add_mul] at this
            rw [World.cell?_setCells_out b _ _ w _ (fun _ _ => .inl (by simp only; omega))]
            exact hu'
          · rw [List.getElem?_append_right (by omega)] at hri
            obtain ⟨u, hu', hru⟩ := hfn.2.2.2 _ j r x hri hj
            refine ⟨u, ?_, hi x u hru⟩
            have hm : (i - rows.length) * ie.size + j < news.length := (List.getElem?_eq_some_iff.1 hu').1
            have := World.cell?_setCells_in b news (rows.length * ie.size) w hcells _ hm
            have he' : i * ie.size = rows.length * ie.size + (i - rows.length) * ie.size := by rw [← Nat.add_mul]; congr 1; omega
            rw [he', Nat.add_assoc, this]
            rw [List.getElem?_eq_getElem hm] at hu'
            exact hu')
        obtain ⟨L', hren, hLn, hLo⟩ := hstore.rename (id := id) (ob := .arr (rows ++ rows2)) (by simp [S.set, look_upd, hlk])
        have hdel : ({ s.set id (.arr (rows ++ rows2)) with n := (s.set id (.arr (rows ++ rows2))).n + 1, st := ((s.set id (.arr (rows ++ rows2))).n, .arr (rows ++ rows2)) :: del (s.set id (.arr (rows ++ rows2))).st id } : S).st = (s.n, .arr (rows ++ rows2)) :: del (upd s.st id (.arr (rows ++ rows2))) id := rfl
        have hsub : Sub (s.app (rows ++ rows2) (del s.st id)) { s.set id (.arr (rows ++ rows2)) with n := (s.set id (.arr (rows ++ rows2))).n + 1, st := ((s.set id (.arr (rows ++ rows2))).n, .arr (rows ++ rows2)) :: del (s.set id (.arr (rows ++ rows2))).st id } := by
          refine ⟨rfl, fun t v hv => ⟨hv, (hR.ben t v hv).mono (Nat.le_succ _)⟩, fun i o' ho' => ?_⟩
          simp only [S.app, look_cons, look_del] at ho'
          simp only [S.set, look_cons, look_del, look_upd]
          by_cases e1 : i = s.n
          · rw [if_pos e1] at ho' ⊢
            obtain rfl := Option.some.inj ho'
            exact ⟨rfl, by simp only [S.app]; omega, hbd'.mono (Nat.le_succ _)⟩
          · rw [if_neg e1] at ho' ⊢
            by_cases e2 : i = id
            · rw [if_pos e2] at ho'; cases ho'
            · rw [if_neg e2] at ho' ⊢
              rw [if_neg (fun hh => e2 hh.1)]
              have := hR.bst i o' ho'
              exact ⟨ho', Nat.lt_succ_of_lt this.1, this.2.mono (Nat.le_succ _)⟩
        have hfin := hren.weaken hsub fun i hi => Nat.lt_succ_of_lt (hR.pin i hi).2
        refine hK _ _ _ ⟨L', F, hfin.put (Oper.dok_spec hd) ?_ (Nat.lt_succ_self _)⟩ k
        refine ⟨rfl, fun rows' hr' => ?_⟩
        have : rows' = rows ++ rows2 := by simpa [S.app, look_cons] using hr'.symm
        subst this
        refine ⟨_, bc, rfl, by simp, .inl ⟨b, ie.size, ?_, by simp, hroom, by simp [hne], fun j hj => ?_⟩⟩
        · rw [show s.n = (s.set id (.arr (rows ++ rows2))).n from rfl, hLn]; exact hL
        · exact some_setCells b news _ w hcells _ (hcs j (by simpa using hj))
  · -- growth
    have hgrow : bc < rows.length + rows2.length := by omega
    have hfit := growslice_fits (bytes := ie.bytes) hgrow hsz
    have hnl : news.length = rows2.length * ie.size := hfn.1
    have hol : olds.length = rows.length * ie.size := hfo.1
    let cap := grownCap w (rows.length + rows2.length) bc e
    have hcapge : rows.length + rows2.length ≤ cap := by
      show _ ≤ (Question.appendCap _ _ _).cut _
      simp [Question.cut]
    let c0 : Array Value := (olds ++ news).toArray ++ Builtin.zeroCells z.cells (cap - (rows.length + rows2.length))
    have hrun : (execOp a.eval o).run P w = .ok (.value (.slice (some ⟨w.heap.size, 0, none⟩) (rows.length + rows2.length) cap)) (w.drew.alloc (.cells c0 e (0, 0))) := by
      have h3 := hln w.drew rfl
      have h4 := hlo w.drew rfl
      simp only [execOp, ho, resolve, invoke, builtin, Sem.run_bind, Sem.run_pure, Result.andThen_ok, List.map_toArray, List.map_cons, List.map_nil]
      rw [hbv, hsv]
      rw [hsv] at h3
      rw [hbv] at h4
      have h63' : ¬ (9223372036854775807 < ((rows.length : Int) + (rows2.length : Int))) := by omega
      have h48' : ¬ (281474976710656 < Builtin.nextslicecap (rows.length + rows2.length) bc * ie.bytes) := by omega
      simp [Builtin.append_, run_underlying hu, run_underlying hu2, Go.sizeOf, typeInfo, zeroValue, hf, hz, hfs, hfb, Builtin.lenOf, hroom, h63', h48', Question.forced, h3, h4, newRow]
      refine ⟨rfl, ?_⟩
      show World.alloc _ (.cells (olds.toArray ++ (news.toArray ++ Builtin.zeroCells z.cells (cap - (rows.length + rows2.length)))) e (0, 0)) = _
      congr 2
      apply Array.ext'
      simp [c0, List.append_assoc]
    rw [hrun]
    have hzl : z.cells.size = ie.size := by
      have := (zc_ok (st := look s.st) (L := L) (w := w) (F := F) _ _ hzc).1
      simpa [h7] using this
    have hc0 : c0.size = cap * ie.size := by
      simp only [c0, Array.size_append, List.size_toArray, List.length_append, size_zeroCells, hzl, hnl, hol]
      rw [← Nat.add_mul, ← Nat.add_mul]; congr 1; exact Nat.add_sub_cancel' hcapge
    have hbd' : (Ob.arr (rows ++ rows2)).bd s.n := hflat.2.2.1
    have hne : rows ++ rows2 ≠ [] := fun e => by
      have := congrArg List.length e
      rw [List.length_append, List.length_nil] at this; omega
    have hi0 : ∀ (x : MC) (u : Value), RC (look s.st) L w F x u → RC (look s.st) L { w with drawn := w.drawn + 1 } F x u := fun x u hr =>
      RC.same (w := w) (w' := { w with drawn := w.drawn + 1 }) (F := F) (F' := F) (L := L) (L' := L) (fun _ _ => rfl) .rfl (fun _ _ => rfl) (fun _ _ _ _ _ _ h => h) hr
    obtain ⟨L', hal, hLn, hLo⟩ := hR.drew.alloc c0 e ie.size (.arr (rows ++ rows2)) hbd' (fun L' h5 h6 hi => arr_of_flat hflat hall h5 (free_alloc _ _ _) (fun j v hj => by
      rw [show w.heap.size = ({ w with drawn := w.drawn + 1 } : World).heap.size from rfl, cell_alloc]
      simp only [c0]
      have hlt := (List.getElem?_eq_some_iff.1 hj).1
      rw [Array.getElem?_append_left (by simpa using hlt)]
      simpa using hj) (fun x hx u hr => hi x hx u (hi0 x u hr)))
    have hsub : Sub (s.app (rows ++ rows2) st) (s.new (.arr (rows ++ rows2))) := by
      refine ⟨rfl, fun t v hv => ⟨hv, (hR.ben t v hv).mono (Nat.le_succ _)⟩, fun i o' ho' => ?_⟩
      simp only [S.app, look_cons] at ho'
      simp only [S.new, look_cons]
      by_cases e1 : i = s.n
      · rw [if_pos e1] at ho' ⊢
        obtain rfl := Option.some.inj ho'
        exact ⟨rfl, by simp only [S.app]; omega, hbd'.mono (Nat.le_succ _)⟩
      · rw [if_neg e1] at ho' ⊢
        have hlk : look s.st i = some o' := by
          rcases base_st hb with rfl | ⟨id, rfl⟩
          · exact ho'
          · rw [look_del] at ho'
            split at ho'
            · cases ho'
            · exact ho'
        have := hR.bst i o' hlk
        exact ⟨hlk, Nat.lt_succ_of_lt this.1, this.2.mono (Nat.le_succ _)⟩
    have hfin := hal.weaken hsub fun i hi => Nat.lt_succ_of_lt (hR.pin i hi).2
    refine hK _ _ _ ⟨L', F, hfin.put (Oper.dok_spec hd) ?_ (Nat.lt_succ_self _)⟩ k
    refine ⟨rfl, fun rows' hr' => ?_⟩
    have : rows' = rows ++ rows2 := by simpa [S.app, look_cons] using hr'.symm
    subst this
    refine ⟨_, cap, rfl, by simp, .inl ⟨w.heap.size, ie.size, hLn, by simp, hcapge, hne, fun j hj => ?_⟩⟩
    rw [show w.heap.size = ({ w with drawn := w.drawn + 1 } : World).heap.size from rfl]
    have := cell_alloc ({ w with drawn := w.drawn + 1 } : World) c0 e j
    show ((({ w with drawn := w.drawn + 1 } : World).alloc (.cells c0 e (0, 0))).cell? _).isSome = true
    rw [this]
    have hj' : j < c0.size := by rw [hc0]; simpa using hj
    simp [hj']

end Mg
