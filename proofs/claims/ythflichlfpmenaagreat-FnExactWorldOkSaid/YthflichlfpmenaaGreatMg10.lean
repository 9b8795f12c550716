/- The abstract state logic, part 10: make, slice literals, copy, fields, strings' bytes. No condition. -/
import Derived.Test.YthflichlfpmenaaGreatMg9
namespace Mg
open Go Go.RowKit
set_option linter.unusedVariables false
set_option linter.unusedSimpArgs false

variable {P : Program} {T : Tab} {o : Oper} {s : S} {K : S → Prop}

def chunk : Nat → Nat → List MC → List (List MC)
  | 0, _, _ => []
  | n + 1, s, l => l.take s :: chunk n s (l.drop s)

theorem chunk_get : ∀ (n s : Nat) (l : List MC) (i : Nat), (chunk n s l)[i]? = if i < n then some ((l.drop (i * s)).take s) else none
  | 0, s, l, i => by simp [chunk]
  | n + 1, s, l, 0 => by simp [chunk]
  | n + 1, s, l, i + 1 => by
    simp only [chunk, List.getElem?_cons_succ, chunk_get n s (l.drop s) i, List.drop_drop]
    by_cases h : i < n
    · rw [if_pos h, if_pos (by omega)]; congr 3; rw [Nat.add_mul]; omega
    · rw [if_neg h, if_neg (by omega)]
theorem chunk_len : ∀ (n s : Nat) (l : List MC), (chunk n s l).length = n
  | 0, _, _ => rfl
  | n + 1, s, l => by simp [chunk, chunk_len n s (l.drop s)]
theorem chunk_row {n s : Nat} {l : List MC} (h : n * s ≤ l.length) : ∀ r ∈ chunk n s l, r.length = s := fun r hr => by
  obtain ⟨i, hi⟩ := List.getElem?_of_mem hr
  rw [chunk_get] at hi
  split at hi
  · rename_i hlt
    obtain rfl := Option.some.inj hi
    have : (i + 1) * s ≤ n * s := Nat.mul_le_mul_right _ hlt
    rw [Nat.add_mul] at this
    simp; omega
  · cases hi

/-- A new live slice out of cells that read so. -/
theorem arr_new {L : Lay} {F : FF} {w : World} {st' : Sto} {L' : Lay} {st : Sto} {n sz id : Nat} {c : Array Value} {e : TypeId} {res : List MC} {k : Nat} (hc : Cells st L w F res c) (hl : res.length = k * sz)
    (hL : L' id = some (w.heap.size, sz)) (hb : ∀ x ∈ res, x.bd n)
    (hi : ∀ x : MC, x.bd n → ∀ u, RC st L w F x u → RC st' L' (w.alloc (.cells c e (0, 0))) F x u) :
    ObOK st' L' (w.alloc (.cells c e (0, 0))) F id (.arr (chunk k sz res)) :=
  .inr ⟨_, sz, hL, free_alloc _ _ _, chunk_row (by omega), fun i r hr j x hj => by
    rw [chunk_get] at hr
    split at hr
    · obtain rfl := Option.some.inj hr
      rw [List.getElem?_take] at hj
      split at hj
      · rw [List.getElem?_drop] at hj
        obtain ⟨u, h1, h2⟩ := hc.2 _ x hj
        exact ⟨u, by rw [cell_alloc]; exact h1, hi x (hb x (List.mem_of_getElem? hj)) u h2⟩
      · cases hj
    · cases hr⟩

theorem chunk_bd {k sz n : Nat} {res : List MC} (hb : ∀ x ∈ res, x.bd n) : (Ob.arr (chunk k sz res)).bd n := fun r hr x hx => by
  obtain ⟨i, hi⟩ := List.getElem?_of_mem hr
  rw [chunk_get] at hi
  split at hi
  · obtain rfl := Option.some.inj hi
    exact hb x (List.mem_of_mem_drop (List.mem_of_mem_take hx))
  · cases hi

theorem RC.ref_new {L : Lay} {F : FF} {w : World} {st : List (Nat × Ob)} {n k sz : Nat} {c : Array Value} {e : TypeId} {rows : List (List MC)} (hL : L n = some (w.heap.size, sz)) (hk : rows.length = k) (hc : c.size = k * sz) :
    RC (look ((n, .arr rows) :: st)) L (w.alloc (.cells c e (0, 0))) F (.ref n 0 k) (.slice (some ⟨w.heap.size, 0, none⟩) k k) := by
  refine ⟨rfl, fun rows' hr' => ?_⟩
  obtain rfl : rows' = rows := by simpa [look_cons] using hr'.symm
  refine ⟨_, k, rfl, by omega, ?_⟩
  by_cases h0 : k = 0
  · exact .inr ⟨h0, h0⟩
  · refine .inl ⟨_, sz, hL, by simp, Nat.le_refl _, fun e => by subst e; simp at hk; omega, fun j hj => ?_⟩
    rw [cell_alloc]
    have : j < c.size := by rw [hc]; simpa using hj
    simp [this]

def zrep (z : List MC) (k : Nat) : List MC := (List.replicate k z).flatten

theorem zrep_succ (z : List MC) (k : Nat) : zrep z (k + 1) = z ++ zrep z k := by simp [zrep, List.replicate_succ]
theorem zrep_len (z : List MC) : ∀ k, (zrep z k).length = k * z.length
  | 0 => by simp [zrep]
  | k + 1 => by rw [zrep_succ, List.length_append, zrep_len z k, Nat.add_mul]; omega
theorem zrep_get (z : List MC) : ∀ (k j : Nat), j < k * z.length → (zrep z k)[j]? = z[j % z.length]?
  | 0, j, h => by simp at h
  | k + 1, j, h => by
    rw [zrep_succ]
    by_cases hj : j < z.length
    · rw [List.getElem?_append_left hj, Nat.mod_eq_of_lt hj]
    · rw [List.getElem?_append_right (by omega), zrep_get z k (j - z.length) (by rw [Nat.add_mul] at h; omega), ← Nat.mod_eq_sub_mod (by omega)]
theorem zrep_chunk (z : List MC) : ∀ k, chunk k z.length (zrep z k) = List.replicate k z
  | 0 => rfl
  | k + 1 => by
    rw [zrep_succ]
    simp only [chunk, List.take_left', List.drop_left', List.replicate_succ, zrep_chunk z k]

theorem zcells_rep {st : Sto} {L : Lay} {w : World} {F : FF} {zs : List ZC} {z : Array Value} (h : zcells zs z.toList = true) (k : Nat) :
    Cells st L w F (zrep (zs.map ZC.mc) k) ((Array.range (k * zs.length)).map (z[· % z.size]!)) := by
  have hz := zc_ok (st := st) (L := L) (w := w) (F := F) _ _ h
  have hsz : z.size = zs.length := by have := hz.1; simpa using this
  refine ⟨by simp [zrep_len], fun j x hj => ?_⟩
  have hlt : j < k * zs.length := by
    have := (List.getElem?_eq_some_iff.1 hj).1
    simpa [zrep_len] using this
  rw [zrep_get _ _ _ (by simpa using hlt)] at hj
  obtain ⟨u, hu, hr⟩ := hz.2 _ x hj
  refine ⟨u, ?_, hr⟩
  have hu' : z[j % z.size]? = some u := by
    rw [hsz]; simpa using hu
  have hlt' : j % z.size < z.size := (Array.getElem?_eq_some_iff.1 hu').1
  simp only [Array.getElem?_map, Array.getElem?_range, if_pos hlt, Option.map_some]
  rw [getElem!_pos z _ hlt']
  rw [Array.getElem?_eq_getElem hlt'] at hu'
  exact hu'

theorem zrep_bd (zs : List ZC) (k n : Nat) : ∀ x ∈ zrep (zs.map ZC.mc) k, x.bd n := fun x hx => by
  simp only [zrep, List.mem_flatten] at hx
  obtain ⟨l, hl, hx⟩ := hx
  rw [List.eq_of_mem_replicate hl] at hx
  exact zmc_bd zs n x hx

theorem r_make {t e : TypeId} {x : Operand} {ik : IntKind} {n : Int} {i ie : TI} (hT : TOk P T) (ho : o.op = .makeSlice t x x) (hd : Oper.dok o s.m = true)
    (ht : T t = some i) (hk : i.k = .slice e) (he : T e = some ie) (hx : evO s x = some (.one (.sc (.int ik n)))) (hn : 0 ≤ n ∧ n ≤ 281474976710656 ∧ ie.bytes * n ≤ 281474976710656)
    (k : K ((s.new (.arr (List.replicate n.toNat (ie.z.map ZC.mc)))).put o.dst (.one (.ref s.n 0 n.toNat)))) : OpOK P o s K := by
  have hzl : (ie.z.map ZC.mc).length = ie.z.length := by simp
  rw [← zrep_chunk] at k
  refine OpOK.mk (ob := .arr (chunk n.toNat (ie.z.map ZC.mc).length (zrep (ie.z.map ZC.mc) n.toNat))) (Oper.dok_spec hd) (chunk_bd (zrep_bd _ _ _)) (Nat.lt_succ_self _) (fun w0 wr A L F a w h => ?_) k
  obtain ⟨⟨h1, _⟩, _⟩ := evO_ok h hx
  obtain ⟨f, hf, hfs, hfb, _, z, hz, hzc, hz7⟩ := hT.info he
  have hu := run_underlying (hT.und_slice ht hk)
  have hcl := zcells_rep (st := look s.st) (L := L) (w := w) (F := F) hzc n.toNat
  have hc : (Array.range (n.toNat * ie.z.length)).size = n.toNat * ie.z.length := by simp
  refine ⟨(Array.range (n.toNat * ie.z.length)).map (z.cells[· % z.cells.size]!), e, (ie.z.map ZC.mc).length, .slice (some ⟨w.heap.size, 0, none⟩) n.toNat n.toNat, ?_, fun L' hL1 hL2 hi =>
    ⟨arr_new hcl (by rw [zrep_len]) hL1 (zrep_bd _ _ _) hi, RC.ref_new (F := F) hL1 (chunk_len _ _ _) (by simp)⟩⟩
  have hw : IntKind.i64.wrap n = n := by simp [IntKind.wrap, IntKind.bits, IntKind.signed]; omega
  have e1 : ¬ (n < 0) := by omega
  have e2 : ¬ (281474976710656 < (ie.bytes : Int) * n) := by omega
  have hsz : n.toNat * ie.size = n.toNat * ie.z.length := by rw [hz7]
  simp only [execOp, ho, h1, Instr.makeSlice, Sem.run_bind, hu, Result.andThen_ok, asInt, asIntOf, Sem.run_pure, typeInfo, hf, run_program, hw, hfb, Go.sizeOf, hfs, zeroValue, hz, hsz]
  generalize hq : n.toNat * ie.z.length = q at hsz
  cases q with
  | zero =>
    simp [e1, e2, newRow, hf, hfs, hz, typeInfo, hsz]
    have h0 : ∀ g : Nat → Value, (Array.range 0).map g = #[] := fun g => by apply Array.ext'; simp
    rw [h0, h0]
  | succ q => simp [e1, e2, newRow, hf, hfs, hz, typeInfo, hsz]

/-- A slice literal. -/
theorem r_buildSlice {t e : TypeId} {parts : Array (Nat × Operand)} {len : Nat} {i ie : TI} {p : Prop} {res : List MC} (hT : TOk P T) (ho : o.op = .buildSlice t len parts) (hd : Oper.dok o s.m = true)
    (ht : T t = some i) (hk : i.k = .slice e) (he : T e = some ie) (hl : 0 < len ∧ 0 < ie.size ∧ len * ie.size ≤ 16777216)
    (hf : fillM s T (fun j => some (j * ie.size, ie.size)) (zrep (ie.z.map ZC.mc) len) parts.toList = some (p, res)) (hp : p) (hr : res.length = len * ie.size) (hb : ∀ x ∈ res, x.bd s.n)
    (k : K ((s.new (.arr (chunk len ie.size res))).put o.dst (.one (.ref s.n 0 len)))) : OpOK P o s K := by
  refine OpOK.mk (ob := .arr (chunk len ie.size res)) (Oper.dok_spec hd) (chunk_bd hb) (Nat.lt_succ_self _) (fun w0 wr A L F a w h => ?_) k
  obtain ⟨f, hf', hfs, hfb, _, z, hz, hzc, hz7⟩ := hT.info he
  have hu := run_underlying (hT.und_slice ht hk)
  have hcl := zcells_rep (st := look s.st) (L := L) (w := w) (F := F) hzc len
  obtain ⟨arr, e1, e2, e3⟩ := fill_ok (T := T) h _ parts.toList _ _ p res hf hp hcl (zrep_bd _ _ _)
  refine ⟨arr, e, ie.size, .slice (some ⟨w.heap.size, 0, none⟩) len len, ?_, fun L' hL1 hL2 hi => ⟨arr_new e2 hr hL1 hb hi, RC.ref_new (F := F) hL1 (chunk_len _ _ _) (by rw [e2.1]; exact hr)⟩⟩
  have hz0 : ¬ (len * ie.size = 0) := by
    have := Nat.mul_pos hl.1 hl.2.1; omega
  have hz1 : ¬ (len * ie.size > 2 ^ 24) := by omega
  have e1' : Instr.fill (fun (j : Nat) => some (j * ie.size, ie.size)) ((Array.range (len * ie.size)).map (z.cells[· % z.cells.size]!)) (parts.map fun x => (x.1, a.eval x.2)).toList = some arr := by
    rw [hz7] at e1; simpa using e1
  simp only [execOp, ho, Instr.buildSlice, Sem.run_bind, hu, Result.andThen_ok, hT.size he, hz1, if_false, hz0, zeroValue, typeInfo, Sem.run_ite, run_program, hf', hz, Sem.run_pure, Sem.run_map]
  rw [e1']
  rfl

theorem r_buildSlice0 {t e : TypeId} {i ie : TI} (hT : TOk P T) (ho : o.op = .buildSlice t 0 #[]) (hd : Oper.dok o s.m = true)
    (ht : T t = some i) (hk : i.k = .slice e) (he : T e = some ie) (k : K (s.put o.dst (.one .nil))) : OpOK P o s K := by
  intro w0 wr A a w Q K' ⟨L, F, hR⟩ hK
  have hu := run_underlying (hT.und_slice ht hk)
  have hrun : (execOp a.eval o).run P w = .ok (.value (.slice (some ⟨w.heap.size, 0, none⟩) 0 0)) (w.alloc (.cells #[] e (0, 0))) := by
    simp [execOp, ho, Instr.buildSlice, hu, hT.size he, Instr.fill, newRow]
    have h0 : ∀ g : Nat → Value, (Array.range 0).map g = #[] := fun g => by apply Array.ext'; simp
    rw [h0]
  unfold Oper.wp
  rw [hrun]
  obtain ⟨L', hal, hLn, hLo⟩ := hR.alloc #[] e 0 (.box []) (fun x hx => by simp at hx) (fun L' h1 h2 h3 => ⟨_, 0, h1, free_alloc _ _ _, fun j x hj => by simp at hj⟩)
  have hfin : Rl w0 wr A L' F s a (w.alloc (.cells #[] e (0, 0))) := hal.weaken ⟨rfl, fun t v hv => ⟨hv, hR.ben t v hv⟩, fun i x hx => ⟨by
    simp only [S.new, look_cons]
    rw [if_neg (fun e => by have := (hR.bst i x hx).1; omega)]; exact hx, hR.bst i x hx⟩⟩ fun i hi => (hR.pin i hi).2
  exact hK _ _ _ ⟨L', F, hfin.put (v := .one .nil) (Oper.dok_spec hd) ⟨_, rfl⟩ trivial⟩ k

end Mg
