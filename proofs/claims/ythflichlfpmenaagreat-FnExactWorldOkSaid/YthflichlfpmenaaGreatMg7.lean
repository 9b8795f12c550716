/- The abstract state logic, part 7: what builds values, makes blocks, stores. No condition. -/
import Derived.Test.YthflichlfpmenaaGreatMg6
namespace Mg
open Go Go.RowKit
set_option linter.unusedVariables false

variable {P : Program} {T : Tab} {o : Oper} {s : S} {K : S → Prop}

def mvCells : MV → Option (List MC)
  | .one c => some [c]
  | .agg cs => some cs
  | _ => none

theorem mvCells_ok {st : Sto} {L : Lay} {w : World} {F : FF} {n : Nat} {v : MV} {u : Value} {cs : List MC} (h : RV st L w F v u) (hb : v.bd n) (hc : mvCells v = some cs) :
    Cells st L w F cs u.cells ∧ ∀ x ∈ cs, x.bd n := by
  cases v with
  | one c =>
    obtain rfl := Option.some.inj hc
    have h : RC st L w F c u := h
    have h1 := h.one
    have : u.cells = #[u] := by cases u <;> first | rfl | (simp [Value.oneCell'] at h1)
    rw [this]
    refine ⟨⟨rfl, fun j x hj => ?_⟩, fun x hx => by simp at hx; subst hx; exact hb⟩
    cases j with
    | zero => obtain rfl := Option.some.inj hj; exact ⟨u, rfl, h⟩
    | succ j => simp at hj
  | agg cs' =>
    obtain rfl := Option.some.inj hc
    obtain ⟨arr, rfl, ha⟩ := h
    exact ⟨ha, hb⟩
  | _ => cases hc

def putAt (cells : List MC) (off : Nat) (cs : List MC) : List MC := cells.take off ++ cs ++ cells.drop (off + cs.length)

theorem putAt_get (cells cs : List MC) (off : Nat) (h : off + cs.length ≤ cells.length) (j : Nat) :
    (putAt cells off cs)[j]? = if off ≤ j ∧ j < off + cs.length then cs[j - off]? else cells[j]? := by
  have ht : (cells.take off).length = off := by simp; omega
  unfold putAt
  by_cases h1 : j < off
  · rw [if_neg (by omega), List.append_assoc, List.getElem?_append_left (by omega), List.getElem?_take, if_pos h1]
  · rw [List.append_assoc, List.getElem?_append_right (by omega), ht]
    by_cases h2 : j < off + cs.length
    · rw [if_pos (by omega), List.getElem?_append_left (by omega)]
    · rw [if_neg (by omega), List.getElem?_append_right (by omega), List.getElem?_drop]
      congr 1; omega
theorem putAt_len (cells cs : List MC) (off : Nat) (h : off + cs.length ≤ cells.length) : (putAt cells off cs).length = cells.length := by
  simp [putAt]; omega
theorem putAt_mem {cells cs : List MC} {off : Nat} {x : MC} (h : x ∈ putAt cells off cs) : x ∈ cells ∨ x ∈ cs := by
  simp only [putAt, List.mem_append] at h
  rcases h with (h | h) | h
  · exact .inl (List.mem_of_mem_take h)
  · exact .inr h
  · exact .inl (List.mem_of_mem_drop h)

theorem foldl_zip (off : Nat) : ∀ (l : List Value) (m : Nat) (cells : Array Value),
    ((l.zipIdx m).foldl (fun (cs : Array Value) (x : Value × Nat) => cs.setIfInBounds (off + x.2) x.1) cells).size = cells.size ∧
    ∀ k, off + m + l.length ≤ cells.size → ((l.zipIdx m).foldl (fun (cs : Array Value) (x : Value × Nat) => cs.setIfInBounds (off + x.2) x.1) cells)[k]? =
      if off + m ≤ k ∧ k < off + m + l.length then l[k - (off + m)]? else cells[k]?
  | [], m, cells => ⟨rfl, fun k _ => by simp; omega⟩
  | v :: l, m, cells => by
    obtain ⟨h1, h2⟩ := foldl_zip off l (m + 1) (cells.setIfInBounds (off + m) v)
    refine ⟨by simpa using h1, fun k hk => ?_⟩
    simp only [List.zipIdx_cons, List.foldl_cons]
    simp only [List.length_cons] at hk
    rw [h2 k (by simp; omega)]
    by_cases h3 : off + (m + 1) ≤ k ∧ k < off + (m + 1) + l.length
    · rw [if_pos h3, if_pos (by simp; omega), show k - (off + m) = (k - (off + (m + 1))) + 1 by omega]
      rfl
    · rw [if_neg h3]
      by_cases h4 : k = off + m
      · subst h4
        rw [if_pos (by simp), Array.getElem?_setIfInBounds_self]
        simp; omega
      · rw [if_neg (by simp; omega), Array.getElem?_setIfInBounds_ne (by omega)]

theorem Cells.putAt {st : Sto} {L : Lay} {w : World} {F : FF} {cells cs : List MC} {arr vs : Array Value} {off : Nat} (h : Cells st L w F cells arr) (hv : Cells st L w F cs vs) (hl : off + cs.length ≤ cells.length) :
    Cells st L w F (putAt cells off cs) (vs.zipIdx.foldl (fun cs (c, j) => cs.setIfInBounds (off + j) c) arr) := by
  have e : vs.zipIdx.foldl (fun (cs : Array Value) (x : Value × Nat) => cs.setIfInBounds (off + x.2) x.1) arr =
      (vs.toList.zipIdx 0).foldl (fun (cs : Array Value) (x : Value × Nat) => cs.setIfInBounds (off + x.2) x.1) arr := by
    rw [← Array.foldl_toList]; simp
  obtain ⟨h1, h2⟩ := foldl_zip off vs.toList 0 arr
  have hvl : vs.toList.length = cs.length := by simpa using hv.1
  show Cells st L w F (Mg.putAt cells off cs) (vs.zipIdx.foldl (fun (cs : Array Value) (x : Value × Nat) => cs.setIfInBounds (off + x.2) x.1) arr)
  rw [e]
  refine ⟨by rw [h1, h.1, putAt_len _ _ _ hl], fun j x hj => ?_⟩
  rw [h2 j (by rw [hvl, h.1]; omega)]
  rw [putAt_get _ _ _ hl] at hj
  by_cases hc : off ≤ j ∧ j < off + cs.length
  · rw [if_pos hc] at hj
    rw [if_pos (by omega)]
    obtain ⟨u, hu, hr⟩ := hv.2 _ x hj
    exact ⟨u, by simpa using hu, hr⟩
  · rw [if_neg hc] at hj
    rw [if_neg (by omega)]
    exact h.2 j x hj

def fillM (s : S) (T : Tab) (place : Nat → Option (Nat × Nat)) : List MC → List (Nat × Operand) → Option (Prop × List MC)
  | cells, [] => some (True, cells)
  | cells, (i, x) :: rest => match place i, (evO s x).bind mvCells with
    | some (off, sz), some cs => (fillM s T place (putAt cells off cs) rest).map fun q => ((cs.length = sz ∧ off + cs.length ≤ cells.length) ∧ q.1, q.2)
    | _, _ => none

theorem fill_ok {w0 : World} {wr : Wr} {A : Nat → Prop} {L : Lay} {F : FF} {a : Act} {w : World} (h : Rl w0 wr A L F s a w) (place : Nat → Option (Nat × Nat)) :
    ∀ (parts : List (Nat × Operand)) (cells : List MC) (arr : Array Value) (p : Prop) (res : List MC), fillM s T place cells parts = some (p, res) → p →
      Cells (look s.st) L w F cells arr → (∀ x ∈ cells, x.bd s.n) →
      ∃ arr', Instr.fill place arr (parts.map fun (i, x) => (i, a.eval x)) = some arr' ∧ Cells (look s.st) L w F res arr' ∧ ∀ x ∈ res, x.bd s.n
  | [], cells, arr, p, res, hf, hp, hc, hb => by
    obtain ⟨rfl, rfl⟩ := Prod.mk.inj (Option.some.inj hf)
    exact ⟨arr, rfl, hc, hb⟩
  | (i, x) :: rest, cells, arr, p, res, hf, hp, hc, hb => by
    simp only [fillM] at hf
    split at hf
    · rename_i off sz cs hpl hcs
      obtain ⟨q, hq, hqe⟩ := Option.map_eq_some_iff.1 hf
      obtain ⟨rfl, rfl⟩ := Prod.mk.inj hqe
      obtain ⟨⟨h1, h2⟩, h3⟩ := hp
      obtain ⟨v, hv, hm⟩ := Option.bind_eq_some_iff.1 hcs
      obtain ⟨hr, hbd⟩ := evO_ok h hv
      obtain ⟨hcv, hbv⟩ := mvCells_ok hr hbd hm
      have hsz : (a.eval x).cells.size = cs.length := hcv.1
      obtain ⟨arr', e1, e2, e3⟩ := fill_ok h place rest (Mg.putAt cells off cs) _ q.1 q.2 (by rw [hq]) h3 (hc.putAt hcv h2) (fun y hy => by
        rcases putAt_mem hy with hy | hy
        · exact hb y hy
        · exact hbv y hy)
      refine ⟨arr', ?_, e2, e3⟩
      simp only [List.map_cons, Instr.fill, hpl]
      rw [if_neg (by rw [hsz, hc.1]; simp; omega)]
      exact e1
    · cases hf

theorem zc_ok {st : Sto} {L : Lay} {w : World} {F : FF} : ∀ (zs : List ZC) (vs : List Value), zcells zs vs = true → Cells st L w F (zs.map ZC.mc) vs.toArray
  | [], [], _ => ⟨rfl, fun j x hj => by simp at hj⟩
  | z :: zs, v :: vs, h => by
    simp only [zcells, Bool.and_eq_true] at h
    have ih := zc_ok (st := st) (L := L) (w := w) (F := F) zs vs h.2
    refine ⟨by have := ih.1; simp at this ⊢; omega, fun j x hj => ?_⟩
    cases j with
    | zero =>
      obtain rfl : z.mc = x := by simpa using hj
      refine ⟨v, by simp, ?_⟩
      have h1 := h.1
      cases z <;> cases v <;> simp [ZC.ok] at h1
      · obtain ⟨rfl, rfl⟩ := h1; exact ⟨rfl, rfl⟩
      · subst h1; exact ⟨rfl, rfl⟩
      · refine ⟨?_, rfl⟩
        rename_i b
        obtain ⟨d⟩ := b
        congr 1
      · obtain ⟨rfl, rfl⟩ := h1; exact ⟨_, rfl⟩
      · rename_i p
        cases p with
        | none => exact ⟨rfl, rfl⟩
        | some p => simp at h1
    | succ j =>
      obtain ⟨u, hu, hr⟩ := ih.2 j x (by simpa using hj)
      exact ⟨u, by simpa using hu, hr⟩
  | [], _ :: _, h => by cases h
  | _ :: _, [], h => by cases h

theorem zmc_bd (zs : List ZC) (n : Nat) : ∀ x ∈ zs.map ZC.mc, x.bd n := by
  intro x hx
  obtain ⟨z, _, rfl⟩ := List.mem_map.1 hx
  cases z <;> trivial

theorem TOk.zero {T : Tab} (h : TOk P T) {t : Nat} {i : TI} (ht : T t = some i) : ∃ z, (∀ w, (zeroValue t).run P w = Result.ok z w) ∧ zcells i.z z.cells.toList = true := by
  obtain ⟨f, hf, _, _, _, z, hz, hc, _⟩ := h.info ht
  exact ⟨z, fun w => by simp [zeroValue, typeInfo, hf, hz], hc⟩

theorem r_build {t : TypeId} {parts : Array (Nat × Operand)} {l : List (Nat × Nat)} {i : TI} {p : Prop} {res : List MC} (hT : TOk P T) (ho : o.op = .build t parts) (hd : Oper.dok o s.m = true)
    (ht : T t = some i) (hk : i.k = .struct l) (hf : fillM s T (fun j => (l[j]?).bind fun q => (T q.2).map fun fi => (q.1, fi.size)) (i.z.map ZC.mc) parts.toList = some (p, res)) (hp : p)
    (hl : ∀ q ∈ l, (T q.2).isSome = true) (k : K (s.put o.dst (.agg res))) : OpOK P o s K :=
  OpOK.val (Oper.dok_spec hd) (fun w0 wr A L F a w h => by
    obtain ⟨z, hz, hzc⟩ := hT.zero ht
    obtain ⟨fs, hu, hm, hnz⟩ := hT.und_struct ht hk
    obtain ⟨arr, e1, e2, e3⟩ := fill_ok (T := T) h _ parts.toList _ z.cells p res hf hp (zc_ok _ _ hzc) (zmc_bd _ _)
    refine ⟨.agg arr, ?_, ⟨arr, rfl, e2⟩, e3⟩
    have hpl : ∀ (gs : List Field), (∀ g ∈ gs, (T g.type).isSome = true) → ∀ w, (gs.mapM (fun f => (do pure (f.offset, ← Go.sizeOf f.type) : Sem (Nat × Nat)))).run P w =
        Result.ok (gs.map fun f => (f.offset, ((T f.type).map (·.size)).getD 0)) w := by
      intro gs
      induction gs with
      | nil => intro _ w; rfl
      | cons g gs ih =>
        intro hg w
        obtain ⟨gi, hgi⟩ := Option.isSome_iff_exists.1 (hg g (by simp))
        simp only [List.mapM_cons, Sem.run_bind, hT.size hgi, Result.andThen_ok, Sem.run_pure, ih (fun q hq => hg q (by simp [hq])), List.map_cons, hgi]
        rfl
    have hpl' := hpl fs.toList (fun g hg => by
      have : (g.offset, g.type) ∈ l := by rw [← hm]; exact List.mem_map.2 ⟨g, hg, rfl⟩
      exact hl _ this)
    have hpa : (fs.mapM (fun f => (do pure (f.offset, ← Go.sizeOf f.type) : Sem (Nat × Nat)))).run P w = Result.ok (fs.toList.map fun f => (f.offset, ((T f.type).map (·.size)).getD 0)).toArray w := by
      obtain ⟨fl⟩ := fs
      rw [List.mapM_toArray, Sem.run_map, hpl']; rfl
    have hplace : (fun (j : Nat) => ((fs.toList.map fun f => (f.offset, ((T f.type).map (·.size)).getD 0)).toArray)[j]?) = (fun (j : Nat) => (l[j]?).bind fun (q : Nat × Nat) => (T q.2).map fun fi => (q.1, fi.size)) := by
      funext j
      rw [← hm]
      simp only [List.getElem?_toArray, List.getElem?_map]
      cases hj : fs.toList[j]? with
      | none => simp
      | some g =>
        have : (g.offset, g.type) ∈ l := by rw [← hm]; exact List.mem_map.2 ⟨g, List.mem_of_getElem? hj, rfl⟩
        obtain ⟨gi, hgi⟩ := Option.isSome_iff_exists.1 (hl _ this)
        simp at hgi
        simp [hgi]
    simp only [execOp, ho, Sem.run_bind, Instr.build, hz, Result.andThen_ok, run_underlying hu]
    rw [hpa]
    simp only [Result.andThen_ok]
    have e1' : Instr.fill (fun (j : Nat) => ((fs.toList.map fun f => (f.offset, ((T f.type).map (·.size)).getD 0)).toArray)[j]?) z.cells (parts.map fun x => (x.1, a.eval x.2)).toList = some arr := by
      rw [hplace]; simpa using e1
    rw [e1']
    rfl) k

theorem r_buildA {t e m : TypeId} {parts : Array (Nat × Operand)} {i ie : TI} {p : Prop} {res : List MC} (hT : TOk P T) (ho : o.op = .build t parts) (hd : Oper.dok o s.m = true)
    (ht : T t = some i) (hk : i.k = .arr m e) (he : T e = some ie) (hf : fillM s T (fun j => some (j * ie.size, ie.size)) (i.z.map ZC.mc) parts.toList = some (p, res)) (hp : p)
    (k : K (s.put o.dst (.agg res))) : OpOK P o s K :=
  OpOK.val (Oper.dok_spec hd) (fun w0 wr A L F a w h => by
    obtain ⟨z, hz, hzc⟩ := hT.zero ht
    have hu := run_underlying (hT.und_arr ht hk)
    obtain ⟨arr, e1, e2, e3⟩ := fill_ok (T := T) h _ parts.toList _ z.cells p res hf hp (zc_ok _ _ hzc) (zmc_bd _ _)
    refine ⟨.agg arr, ?_, ⟨arr, rfl, e2⟩, e3⟩
    simp only [execOp, ho, Sem.run_bind, Instr.build, hz, Result.andThen_ok, hu, hT.size he]
    have e1' : Instr.fill (fun (j : Nat) => some (j * ie.size, ie.size)) z.cells (parts.map fun x => (x.1, a.eval x.2)).toList = some arr := by simpa using e1
    rw [e1']
    rfl) k

/-- An operation that makes one block. -/
theorem OpOK.mk {ob : Ob} {v : MV} (hd : ∀ x, o.dst = some x → x < s.m) (hb : ob.bd s.n) (hv : v.bd (s.n + 1))
    (h : ∀ w0 wr A L F a w, Rl w0 wr A L F s a w → ∃ c e t u, (execOp a.eval o).run P w = .ok (.value u) (w.alloc (.cells c e (0, 0))) ∧
      (∀ L' : Lay, L' s.n = some (w.heap.size, t) → (∀ id, id ≠ s.n → L' id = L id) →
        (∀ x : MC, x.bd s.n → ∀ u, RC (look s.st) L w F x u → RC (look (s.new ob).st) L' (w.alloc (.cells c e (0, 0))) F x u) →
        ObOK (look (s.new ob).st) L' (w.alloc (.cells c e (0, 0))) F s.n ob ∧ RV (look (s.new ob).st) L' (w.alloc (.cells c e (0, 0))) F v u))
    (k : K ((s.new ob).put o.dst v)) : OpOK P o s K := by
  intro w0 wr A a w Q K' ⟨L, F, hr⟩ hK
  obtain ⟨c, e, t, u, he, hx⟩ := h _ _ _ _ _ _ _ hr
  obtain ⟨L', hr', hL1, hL2⟩ := hr.alloc c e t ob hb (fun L' h1 h2 h3 => (hx L' h1 h2 h3).1)
  unfold Oper.wp
  rw [he]
  have hi : ∀ x : MC, x.bd s.n → ∀ u, RC (look s.st) L w F x u → RC (look (s.new ob).st) L' (w.alloc (.cells c e (0, 0))) F x u := fun x hx' u hru =>
    RC.new (fresh_look hr) (fun b hb' => Below.heap_alloc _ _ _ (hr.fsz b hb')) hL2 (fun id b t' j h1 h2 h3 => by
      rw [World.cell?_of_block (w := w) (Below.heap_alloc _ _ _ (hr.own id b t' h1 h2).2.1)]; exact h3) hx' hru
  exact hK _ _ _ ⟨L', F, hr'.put hd (hx L' hL1 hL2 hi).2 hv⟩ k

theorem cell_alloc (w : World) (c : Array Value) (e : TypeId) (j : Nat) : (w.alloc (.cells c e (0, 0))).cell? ⟨w.heap.size, j, none⟩ = c[j]? := by
  have h : (w.alloc (.cells c e (0, 0))).heap[w.heap.size]? = some (.cells c e (0, 0)) := by
    show (w.heap.push _)[w.heap.size]? = _
    simp
  unfold World.cell?
  simp only [h]
  simp
theorem free_alloc (w : World) (c : Array Value) (e : TypeId) : Free (w.alloc (.cells c e (0, 0))) w.heap.size := fun j => by
  have h : (w.alloc (.cells c e (0, 0))).heap[w.heap.size]? = some (.cells c e (0, 0)) := by
    show (w.heap.push _)[w.heap.size]? = _
    simp
  unfold World.frozen?
  simp only [h]
  simp

theorem WC.of_cells {st st' : Sto} {L L' : Lay} {w : World} {F : FF} {n : Nat} {cs : List MC} {c : Array Value} {e : TypeId} (h : Cells st L w F cs c) (hb : ∀ x ∈ cs, x.bd n)
    (hi : ∀ x : MC, x.bd n → ∀ u, RC st L w F x u → RC st' L' (w.alloc (.cells c e (0, 0))) F x u) : WC st' L' (w.alloc (.cells c e (0, 0))) F w.heap.size 0 cs := fun j x hj => by
  obtain ⟨u, h1, h2⟩ := h.2 j x hj
  refine ⟨u, ?_, hi x (hb x (List.mem_of_getElem? hj)) u h2⟩
  rw [Nat.zero_add, cell_alloc]; exact h1

theorem r_box {t : TypeId} {x : Operand} {v : MV} {cs : List MC} (ho : o.op = .box t x) (hd : Oper.dok o s.m = true) (hx : evO s x = some v) (hc : mvCells v = some cs)
    (k : K ((s.new (.box cs)).put o.dst (.one (.ptr s.n 0 0)))) : OpOK P o s K := by
  by_cases hb : ∀ y ∈ cs, y.bd s.n
  · refine OpOK.mk (ob := .box cs) (Oper.dok_spec hd) hb (Nat.lt_succ_self _) (fun w0 wr A L F a w h => ?_) k
    obtain ⟨h1, h2⟩ := evO_ok h hx
    obtain ⟨h3, _⟩ := mvCells_ok h1 h2 hc
    refine ⟨(a.eval x).cells, t, 0, .pointer (some ⟨w.heap.size, 0, none⟩), ?_, fun L' hL1 hL2 hi => ⟨⟨_, 0, hL1, free_alloc _ _ _, WC.of_cells h3 hb hi⟩, rfl, fun _ => ⟨_, 0, hL1, rfl⟩⟩⟩
    simp only [execOp, ho, Instr.box, newVar, newRow, Sem.run_bind, run_newObj, Result.andThen_ok, Sem.run_pure]
    rfl
  · intro w0 wr A a w Q K' ⟨L, F, hr⟩ hK
    obtain ⟨h1, h2⟩ := evO_ok hr hx
    exact absurd (mvCells_ok h1 h2 hc).2 hb

theorem r_alloc {t : TypeId} {i : TI} (hT : TOk P T) (ho : o.op = .alloc t) (hd : Oper.dok o s.m = true) (ht : T t = some i)
    (k : K ((s.new (.box (i.z.map ZC.mc))).put o.dst (.one (.ptr s.n 0 0)))) : OpOK P o s K := by
  refine OpOK.mk (ob := .box (i.z.map ZC.mc)) (Oper.dok_spec hd) (zmc_bd _ _) (Nat.lt_succ_self _) (fun w0 wr A L F a w h => ?_) k
  obtain ⟨z, hz, hzc⟩ := hT.zero ht
  have h3 : Cells (look s.st) L w F (i.z.map ZC.mc) z.cells := by simpa using zc_ok (st := look s.st) (L := L) (w := w) (F := F) _ _ hzc
  refine ⟨z.cells, t, 0, .pointer (some ⟨w.heap.size, 0, none⟩), ?_, fun L' hL1 hL2 hi => ⟨⟨_, 0, hL1, free_alloc _ _ _, WC.of_cells h3 (zmc_bd _ _) hi⟩, rfl, fun _ => ⟨_, 0, hL1, rfl⟩⟩⟩
  simp only [execOp, ho, Instr.alloc, hz, newVar, newRow, Sem.run_bind, run_newObj, Result.andThen_ok, Sem.run_pure]
  rfl

/-- What a store makes of an object. -/
def obPut : Ob → Nat → Nat → List MC → Option (Prop × Ob)
  | .box cs0, r, f, cs => if r = 0 then some (f + cs.length ≤ cs0.length, .box (putAt cs0 f cs)) else none
  | .arr rows, r, f, cs => some (r < rows.length ∧ f + cs.length ≤ (rows.getD r []).length, .arr (rows.set r (putAt (rows.getD r []) f cs)))

theorem WC.setCells {st : Sto} {L : Lay} {w : World} {F : FF} {b p : Nat} {cs0 cs : List MC} {vs : List Value} {f : Nat} {st' : Sto}
    (hi : ∀ x : MC, ∀ u, RC st L w F x u → RC st' L (w.setCells b (p + f) vs) F x u) (h : WC st L w F b p cs0) (hv : Cells st L w F cs vs.toArray) (hl : f + cs.length ≤ cs0.length) :
    WC st' L (w.setCells b (p + f) vs) F b p (putAt cs0 f cs) := fun j x hj => by
  have hvl : vs.length = cs.length := by simpa using hv.1
  rw [putAt_get _ _ _ hl] at hj
  have hex : ∀ j, j < vs.length → (w.cell? ⟨b, p + f + j, none⟩).isSome = true := fun j hj => by
    obtain ⟨u, hu, _⟩ := h (f + j) _ (List.getElem?_eq_getElem (by omega))
    rw [Nat.add_assoc, hu]; rfl
  by_cases hc : f ≤ j ∧ j < f + cs.length
  · rw [if_pos hc] at hj
    obtain ⟨u, hu, hr⟩ := hv.2 _ x hj
    refine ⟨u, ?_, hi x u hr⟩
    have := World.cell?_setCells_in b vs (p + f) w hex (j - f) (by omega)
    rw [show p + f + (j - f) = p + j by omega] at this
    rw [this, ← hu]
    simp
  · rw [if_neg hc] at hj
    obtain ⟨u, hu, hr⟩ := h j x hj
    refine ⟨u, ?_, hi x u hr⟩
    rw [World.cell?_setCells_out b vs (p + f) w _ (fun _ _ => by simp only; omega)]
    exact hu

theorem r_store {t : TypeId} {x y : Operand} {id r f : Nat} {v : MV} {cs : List MC} {ob ob' : Ob} {i : TI} {p : Prop} (hT : TOk P T) (ho : o.op = .store t x y) (hd : o.dst = none) (ht : T t = some i)
    (hx : evO s x = some (.one (.ptr id r f))) (hy : evO s y = some v) (hc : mvCells v = some cs) (hid : look s.st id = some ob) (hp : obPut ob r f cs = some (p, ob')) (hpp : p) (hz : cs.length = i.size)
    (k : K (s.set id ob')) : OpOK P o s K := by
  intro w0 wr A a w Q K' ⟨L, F, hr⟩ hK
  obtain ⟨h1, hb1⟩ := evO_ok hr hx
  obtain ⟨h2, hb2⟩ := evO_ok hr hy
  obtain ⟨hcs, hbc⟩ := mvCells_ok h2 hb2 hc
  obtain ⟨b, st, hL, hv⟩ := h1.2 (by rw [hid]; rfl)
  have hone : ∀ q ∈ (a.eval y).cells.toList, q.oneCell' = true := fun q hq => by
    obtain ⟨j, hj⟩ := List.getElem?_of_mem hq
    have hlt : j < cs.length := by
      have := (List.getElem?_eq_some_iff.1 hj).1
      have h3 := hcs.1
      simp at this
      omega
    obtain ⟨u, hu, hru⟩ := hcs.2 j cs[j] (List.getElem?_eq_getElem hlt)
    have : (a.eval y).cells.toList[j]? = some u := by simpa using hu
    rw [this] at hj
    obtain rfl := Option.some.inj hj
    exact hru.one
  have hob := hr.ob id ob hid
  have hbo := (hr.bst id ob hid).2
  have hcl : (a.eval y).cells.toList.length = cs.length := by simpa using hcs.1
  have hcs' : Cells (look s.st) L w F cs (a.eval y).cells.toList.toArray := by simpa using hcs
  -- the row that is written, and what stands there
  obtain ⟨row, hrow, hfl, hWC, hfree, hobd, hlike, hback⟩ : ∃ row : List MC, (∀ x ∈ row, x.bd s.n) ∧ f + cs.length ≤ row.length ∧ WC (look s.st) L w F b (r * st) row ∧ Free w b ∧ ob'.bd s.n ∧ ob.like ob' ∧
      ((∀ x : MC, ∀ u, RC (look s.st) L w F x u → RC (look (s.set id ob').st) L (w.setCells b (r * st + f) (a.eval y).cells.toList) F x u) →
        ObOK (look (s.set id ob').st) L (w.setCells b (r * st + f) (a.eval y).cells.toList) F id ob') := by
    have hfz : ∀ b p vs, Free w b → Free (w.setCells b p vs) b := fun b p vs hf j => by rw [World.frozen?_setCells]; exact hf j
    cases ob with
    | box cs0 =>
      simp only [obPut] at hp
      split at hp
      · rename_i hr0
        obtain ⟨rfl, rfl⟩ := Prod.mk.inj (Option.some.inj hp)
        obtain ⟨b', st', hL', hf', hw'⟩ := hob
        rw [hL] at hL'
        obtain ⟨rfl, rfl⟩ := Prod.mk.inj (Option.some.inj hL')
        subst hr0
        refine ⟨cs0, hbo, hpp, by simpa using hw', hf', fun x hx => ?_, trivial, fun hi => ⟨b, st, hL, hfz _ _ _ hf', ?_⟩⟩
        · rcases putAt_mem hx with hx | hx
          · exact hbo x hx
          · exact hbc x hx
        · simp only [Nat.zero_mul] at hi ⊢
          exact WC.setCells hi hw' hcs' hpp
      · cases hp
    | arr rows =>
      obtain ⟨rfl, rfl⟩ := Prod.mk.inj (Option.some.inj hp)
      obtain ⟨hp1, hp2⟩ := hpp
      rcases hob with ⟨rfl, _⟩ | ⟨b', st', hL', hf', hs', hw'⟩
      · simp at hp1
      · rw [hL] at hL'
        obtain ⟨rfl, rfl⟩ := Prod.mk.inj (Option.some.inj hL')
        have hrg : rows[r]? = some (rows.getD r []) := by simp [List.getElem?_eq_getElem hp1]
        refine ⟨rows.getD r [], hbo _ (List.mem_of_getElem? hrg), hp2, hw' r _ hrg, hf', ?_, by simp [Ob.like], fun hi => .inr ⟨b, st, hL, hfz _ _ _ hf', ?_, ?_⟩⟩
        · intro q hq x hx
          rcases List.mem_or_eq_of_mem_set hq with hq | rfl
          · exact hbo q hq x hx
          · rcases putAt_mem hx with hx | hx
            · exact hbo _ (List.mem_of_getElem? hrg) x hx
            · exact hbc x hx
        · intro q hq
          rcases List.mem_or_eq_of_mem_set hq with hq | rfl
          · exact hs' q hq
          · rw [putAt_len _ _ _ hp2]; exact hs' _ (List.mem_of_getElem? hrg)
        · intro j q hq
          by_cases hjr : j = r
          · subst hjr
            rw [List.getElem?_set_self hp1] at hq
            obtain rfl := Option.some.inj hq
            exact WC.setCells hi (hw' j _ hrg) hcs' hp2
          · rw [List.getElem?_set_ne (Ne.symm hjr)] at hq
            intro m x hm
            obtain ⟨u, hu, hru⟩ := hw' j q hq m x hm
            refine ⟨u, ?_, hi x u hru⟩
            rw [World.cell?_setCells_out b _ _ w _ (fun _ _ => ?_)]
            · exact hu
            · simp only
              have hm' : m < st := by
                have := (List.getElem?_eq_some_iff.1 hm).1
                rw [hs' q (List.mem_of_getElem? hq)] at this; exact this
              have hst : (rows.getD r []).length = st := hs' _ (List.mem_of_getElem? hrg)
              rw [hcl]
              rcases Nat.lt_or_gt_of_ne hjr with hlt | hgt
              · left
                have : (j + 1) * st ≤ r * st := Nat.mul_le_mul_right _ hlt
                rw [Nat.add_mul] at this; omega
              · right
                have : (r + 1) * st ≤ j * st := Nat.mul_le_mul_right _ hgt
                rw [Nat.add_mul] at this; omega
  have hcells : ∀ j, j < (a.eval y).cells.toList.length → (w.cell? ⟨b, r * st + f + j, none⟩).isSome = true := fun j hj => by
    obtain ⟨u, hu, _⟩ := hWC (f + j) _ (List.getElem?_eq_getElem (by omega))
    rw [Nat.add_assoc, hu]; rfl
  have hst := run_storeCells_cells (P := P) b (r * st + f) (a.eval y).cells.toList 0 w (by simpa using hcells) (fun j _ => hfree _) hone
  unfold Oper.wp
  have hrun : (execOp a.eval o).run P w = .ok .skip (w.setCells b (r * st + f) (a.eval y).cells.toList) := by
    have hsz : (a.eval y).cells.size = i.size := by rw [hcs.1]; exact hz
    simp only [Nat.add_zero] at hst
    simp only [execOp, ho, hv, Instr.storeAt, Instr.sureAddr, storeVar, Sem.run_bind, Sem.run_pure, Result.andThen_ok, hT.size ht, hsz, ne_eq, not_true_eq_false, if_false, hst]
  rw [hrun]
  have := hr.store (p := r * st + f) hid hL hlike hcells hobd hback
  have h3 := hK _ _ _ ⟨L, F, this⟩ k
  simp only [Oper.upon, hd]
  exact h3

end Mg
