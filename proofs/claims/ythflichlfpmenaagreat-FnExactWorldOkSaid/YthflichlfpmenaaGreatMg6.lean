/- The abstract state logic, part 6: loads, indexes, slices. No condition. -/
import Derived.Test.YthflichlfpmenaaGreatMg5
namespace Mg
open Go Go.RowKit
set_option linter.unusedVariables false

variable {P : Program} {T : Tab} {o : Oper} {s : S} {K : S → Prop}

/-- The cells from a pointer on. -/
def ptrCells (s : S) : MC → Option (List MC)
  | .ptr id r f => match look s.st id with
    | some (.box cs) => if r = 0 then some (cs.drop f) else none
    | some (.arr rows) => some ((rows.getD r []).drop f)
    | none => none
  | .fptr cs => some cs
  | .aptr cs => some (cs.map MC.toA)
  | _ => none

theorem WC.drop {st : Sto} {L : Lay} {w : World} {F : FF} {b p : Nat} {cs : List MC} (f : Nat) (h : WC st L w F b p cs) : WC st L w F b (p + f) (cs.drop f) := fun j x hj => by
  rw [List.getElem?_drop] at hj
  obtain ⟨u, h1, h2⟩ := h _ x hj
  exact ⟨u, by rw [Nat.add_assoc]; exact h1, h2⟩

theorem ptrCells_ok {w0 : World} {wr : Wr} {A : Nat → Prop} {L : Lay} {F : FF} {a : Act} {w : World} (h : Rl w0 wr A L F s a w) {c : MC} {v : Value} {cs : List MC}
    (hc : RC (look s.st) L w F c v) (hp : ptrCells s c = some cs) : ∃ b p, v = .pointer (some ⟨b, p, none⟩) ∧ WC (look s.st) L w F b p cs ∧ ∀ x ∈ cs, x.bd s.n := by
  cases c with
  | ptr id r f =>
    simp only [ptrCells] at hp
    split at hp
    · rename_i cs0 ho
      split at hp
      · rename_i hr0
        obtain rfl := Option.some.inj hp
        obtain ⟨b, t, hL, hv⟩ := hc.2 (by rw [ho]; rfl)
        obtain ⟨b', t', hL', _, hw⟩ := h.ob id _ ho
        rw [hL] at hL'
        obtain ⟨rfl, rfl⟩ := Prod.mk.inj (Option.some.inj hL')
        refine ⟨b, _, hv, ?_, fun x hx => (h.bst id _ ho).2 x (List.mem_of_mem_drop hx)⟩
        have := hw.drop f
        rwa [hr0, Nat.zero_mul]
      · cases hp
    · rename_i rows ho
      obtain rfl := Option.some.inj hp
      obtain ⟨b, t, hL, hv⟩ := hc.2 (by rw [ho]; rfl)
      refine ⟨b, _, hv, ?_, ?_⟩
      · cases hr : rows[r]? with
        | none =>
          have : rows.getD r [] = [] := by simp [hr]
          rw [this]
          intro j x hj; simp at hj
        | some row =>
          have hg : rows.getD r [] = row := by simp [hr]
          rw [hg]
          rcases h.ob id _ ho with ⟨rfl, _⟩ | ⟨b', t', hL', _, _, hw⟩
          · cases hr
          · rw [hL] at hL'
            obtain ⟨rfl, rfl⟩ := Prod.mk.inj (Option.some.inj hL')
            exact (hw r row hr).drop f
      · intro x hx
        have hx' := List.mem_of_mem_drop hx
        cases hr : rows[r]? with
        | none =>
          have : rows.getD r [] = [] := by simp [hr]
          rw [this] at hx'; cases hx'
        | some row =>
          have hg : rows.getD r [] = row := by simp [hr]
          rw [hg] at hx'
          exact (h.bst id _ ho).2 row (List.mem_of_getElem? hr) x hx'
    · cases hp
  | fptr cs0 =>
    obtain rfl := Option.some.inj hp
    obtain ⟨b, p, _, hv, hcs⟩ := hc
    refine ⟨b, p, hv, fun j x hj => ?_, fun x hx => ?_⟩
    · obtain ⟨u, h1, h2⟩ := hcs j x hj
      exact ⟨u, h1, RC.of_RF h2⟩
    · obtain ⟨j, hj⟩ := List.getElem?_of_mem hx
      obtain ⟨u, _, h2⟩ := hcs j x hj
      exact MC.bd_frz h2.frz
  | aptr cs0 =>
    obtain rfl := Option.some.inj hp
    obtain ⟨b, p, _, hv, hcs⟩ := hc
    have hget : ∀ (j : Nat) (x : MC), (cs0.map MC.toA)[j]? = some x → ∃ y, cs0[j]? = some y ∧ x = y.toA := fun j x hj => by
      rw [List.getElem?_map] at hj
      obtain ⟨y, hy, rfl⟩ := Option.map_eq_some_iff.1 hj
      exact ⟨y, hy, rfl⟩
    refine ⟨b, p, hv, fun j x hj => ?_, fun x hx => ?_⟩
    · obtain ⟨y, hy, rfl⟩ := hget j x hj
      obtain ⟨u, h1, h2⟩ := hcs j y hy
      exact ⟨u, h1, RC.of_RFa h2⟩
    · obtain ⟨j, hj⟩ := List.getElem?_of_mem hx
      obtain ⟨y, hy, rfl⟩ := hget j x hj
      obtain ⟨u, _, h2⟩ := hcs j y hy
      exact MC.bd_toA h2.frz
  | _ => cases hp

def vals (w : World) (b p n : Nat) : List Value := (List.range n).map fun j => (w.cell? ⟨b, p + j, none⟩).getD undef

theorem vals_range {st : Sto} {L : Lay} {w : World} {F : FF} {b p n : Nat} {cs : List MC} (h : WC st L w F b p cs) (hn : n ≤ cs.length) :
    w.rangeAt b p (vals w b p n) ∧ Cells st L w F (cs.take n) (vals w b p n).toArray := by
  have hx : ∀ j, j < n → ∃ x u, cs[j]? = some x ∧ w.cell? ⟨b, p + j, none⟩ = some u ∧ RC st L w F x u := fun j hj => by
    have hj' : j < cs.length := Nat.lt_of_lt_of_le hj hn
    obtain ⟨u, h1, h2⟩ := h j cs[j] (List.getElem?_eq_getElem hj')
    exact ⟨_, u, List.getElem?_eq_getElem hj', h1, h2⟩
  refine ⟨fun j v hj => ?_, ?_, fun j x hj => ?_⟩
  · have hlt : j < n := by
      have := (List.getElem?_eq_some_iff.1 hj).1
      simpa [vals] using this
    obtain ⟨x, u, _, h1, _⟩ := hx j hlt
    have : (vals w b p n)[j]? = some u := by simp [vals, List.getElem?_range hlt, h1]
    rw [this] at hj
    obtain rfl := Option.some.inj hj
    exact h1
  · simp [vals]; omega
  · rw [List.getElem?_take] at hj
    split at hj
    · rename_i hlt
      obtain ⟨x', u, h0, h1, h2⟩ := hx j hlt
      rw [h0] at hj
      obtain rfl := Option.some.inj hj
      exact ⟨u, by simp [vals, List.getElem?_range hlt, h1], h2⟩
    · cases hj

theorem r_load {t : TypeId} {x : Operand} {c : MC} {cs : List MC} {i : TI} (hT : TOk P T) (ho : o.op = .load t x) (hd : Oper.dok o s.m = true)
    (ht : T t = some i) (hk : (match i.k with | .arr _ _ | .struct _ => true | _ => false) = true) (hx : evO s x = some (.one c)) (hp : ptrCells s c = some cs) (hn : i.size ≤ cs.length)
    (k : K (s.put o.dst (.agg (cs.take i.size)))) : OpOK P o s K :=
  OpOK.val (Oper.dok_spec hd) (fun w0 wr A L F a w h => by
    obtain ⟨h1, h2⟩ := evO_ok h hx
    obtain ⟨b, p, hv, hw, hb⟩ := ptrCells_ok h h1 hp
    obtain ⟨hr, hc⟩ := vals_range hw hn
    obtain ⟨d, hu, hrow⟩ := hT.isRow ht hk
    obtain ⟨f, hf, hs, _⟩ := hT.info ht
    refine ⟨_, ?_, ⟨_, rfl, hc⟩, fun y hy => hb y (List.mem_of_mem_take hy)⟩
    simp only [execOp, ho, hv, Sem.run_bind]
    rw [run_loadAt_mid w b p t (vals w b p i.size) d hr hu hrow (by rw [hf]; simp [hs, vals])]
    rfl) k

theorem r_load1 {t : TypeId} {x : Operand} {c : MC} {cs : List MC} {i : TI} (hT : TOk P T) (ho : o.op = .load t x) (hd : Oper.dok o s.m = true)
    (ht : T t = some i) (hk : i.k.agg = false) (hx : evO s x = some (.one c)) (hp : ptrCells s c = some cs) (hn : 0 < cs.length)
    (k : K (s.put o.dst (.one (cs.getD 0 .dead)))) : OpOK P o s K :=
  OpOK.val (Oper.dok_spec hd) (fun w0 wr A L F a w h => by
    obtain ⟨h1, h2⟩ := evO_ok h hx
    obtain ⟨b, p, hv, hw, hb⟩ := ptrCells_ok h h1 hp
    have hg : cs[0]? = some (cs.getD 0 .dead) := by cases cs with | nil => cases hn | cons => rfl
    obtain ⟨u, hu, hr⟩ := hw 0 _ hg
    refine ⟨u, ?_, hr, hb _ (List.mem_of_getElem? hg)⟩
    have hu' : w.cell? ⟨b, p, none⟩ = some u := hu
    simp only [execOp, ho, hv, Sem.run_bind, Instr.loadAt, Instr.sureAddr, Sem.run_pure, Result.andThen_ok, loadVar, hT.isAgg ht hk, Bool.false_eq_true, if_false, run_load, hu']) k

/-- A frozen slice, and its element's pointer. -/
def fzRows : MC → Option (List (List MC))
  | .fz rows => some rows
  | .ag rows => some rows
  | _ => none
def fzPtr : MC → List MC → MC
  | .ag _, cs => .aptr cs
  | _, cs => .fptr cs
def fzMk : MC → List (List MC) → MC
  | .ag _, r => .ag r
  | _, r => .fz r

theorem fz_any {st : Sto} {L : Lay} {w : World} {F : FF} {c : MC} {v : Value} {rows : List (List MC)} (h : RC st L w F c v) (hc : fzRows c = some rows) :
    ∃ G : Nat → Prop, RF w G (.fz rows) v ∧ (∀ b o cells, G b → (∀ j x, cells[j]? = some x → ∃ u, w.cell? ⟨b, o + j, none⟩ = some u ∧ RF w G x u) → RC st L w F (fzPtr c cells) (.pointer (some ⟨b, o, none⟩))) ∧
      ∀ r u, RF w G (.fz r) u → RC st L w F (fzMk c r) u := by
  cases c <;> simp [fzRows] at hc
  · subst hc; exact ⟨F.n, h, fun b o cells hG hx => ⟨b, o, hG, rfl, hx⟩, fun r u hu => hu⟩
  · subst hc; exact ⟨F.all, h, fun b o cells hG hx => ⟨b, o, hG, rfl, hx⟩, fun r u hu => hu⟩

/-- A slice's element: where it stands. -/
theorem r_indexF {t e : TypeId} {x y : Operand} {c : MC} {rows : List (List MC)} {row : List MC} {ik : IntKind} {n : Int} {i ie : TI} (hT : TOk P T) (ho : o.op = .indexAddr t x y) (hd : Oper.dok o s.m = true)
    (ht : T t = some i) (hk : i.k = .slice e) (he : T e = some ie) (hx : evO s x = some (.one c)) (hc : fzRows c = some rows) (hy : evO s y = some (.one (.sc (.int ik n))))
    (hn : 0 ≤ n) (hrow : rows[n.toNat]? = some row) (hl : row.length = ie.size) (k : K (s.put o.dst (.one (fzPtr c row)))) : OpOK P o s K :=
  OpOK.val (Oper.dok_spec hd) (fun w0 wr A L F a w h => by
    obtain ⟨h1, _⟩ := evO_ok h hx
    obtain ⟨⟨h2, _⟩, _⟩ := evO_ok h hy
    obtain ⟨G, hG, hG1, _⟩ := fz_any h1 hc
    obtain ⟨b, cap, hv, _, hb⟩ := RF.fz_inv hG
    have hlt : n.toNat < rows.length := (List.getElem?_eq_some_iff.1 hrow).1
    obtain ⟨blk, off, st, rfl, hF, hs, hcs⟩ := hb (by intro e; subst e; simp at hlt)
    have hst : st = ie.size := by rw [← hs _ (List.mem_of_getElem? hrow)]; exact hl
    subst hst
    have hn1 : n < rows.length := by omega
    refine ⟨.pointer (some ⟨blk, off + n.toNat * ie.size, none⟩), ?_, hG1 _ _ _ hF (fun j c hj => ?_), ?_⟩
    · have hu := run_underlying (hT.und_slice ht hk)
      have hz := hT.size he
      simp [execOp, ho, hv, h2, Instr.indexAt, asIntOf, hu, hz, hn, hn1, Addr.add_mid]
    · obtain ⟨u, hu, hr⟩ := hcs _ j _ c hrow hj
      exact ⟨u, by rw [Nat.add_assoc]; exact hu, hr⟩
    · cases c <;> simp [fzRows] at hc <;> trivial) k

theorem ref_row {w0 : World} {wr : Wr} {A : Nat → Prop} {L : Lay} {F : FF} {a : Act} {w : World} (h : Rl w0 wr A L F s a w) {id off len : Nat} {rows : List (List MC)} {v : Value}
    (hr : RC (look s.st) L w F (.ref id off len) v) (ho : look s.st id = some (.arr rows)) (hl : len ≠ 0) :
    ∃ b st cap, L id = some (b, st) ∧ v = .slice (some ⟨b, off * st, none⟩) len cap ∧ off + len ≤ rows.length ∧ len ≤ cap ∧ (∀ j, j < (off + cap) * st → (w.cell? ⟨b, j, none⟩).isSome = true) ∧
      Free w b ∧ (∀ r ∈ rows, r.length = st) ∧ ∀ (i : Nat) (r : List MC), rows[i]? = some r → WC (look s.st) L w F b (i * st) r := by
  obtain ⟨a, cap, hv, hle, hx⟩ := hr.2 rows ho
  rcases hx with ⟨b, st, hL, rfl, hc, _, hj⟩ | ⟨h0, _⟩
  · rcases h.ob id _ ho with ⟨rfl, hn⟩ | ⟨b', st', hL', hf, hs, hw⟩
    · rw [hL] at hn; cases hn
    · rw [hL] at hL'
      obtain ⟨rfl, rfl⟩ := Prod.mk.inj (Option.some.inj hL')
      exact ⟨b, st, cap, hL, hv, hle, hc, hj, hf, hs, hw⟩
  · exact absurd h0 hl

theorem r_indexR {t e : TypeId} {x y : Operand} {id off len : Nat} {rows : List (List MC)} {ik : IntKind} {n : Int} {i ie : TI} (hT : TOk P T) (ho : o.op = .indexAddr t x y) (hd : Oper.dok o s.m = true)
    (ht : T t = some i) (hk : i.k = .slice e) (he : T e = some ie) (hx : evO s x = some (.one (.ref id off len))) (hy : evO s y = some (.one (.sc (.int ik n))))
    (hr : look s.st id = some (.arr rows)) (hn : 0 ≤ n ∧ n < len) {row : List MC} (hrow : rows[off + n.toNat]? = some row) (hl : row.length = ie.size) (k : K (s.put o.dst (.one (.ptr id (off + n.toNat) 0)))) : OpOK P o s K :=
  OpOK.val (Oper.dok_spec hd) (fun w0 wr A L F a w h => by
    obtain ⟨h1, hb1⟩ := evO_ok h hx
    obtain ⟨⟨h2, _⟩, _⟩ := evO_ok h hy
    obtain ⟨b, st, cap, hL, hv, hle, hc, hj, hf, hs, hw⟩ := ref_row h h1 hr (by omega)
    have hst : st = ie.size := by rw [← hs _ (List.mem_of_getElem? hrow)]; exact hl
    subst hst
    refine ⟨.pointer (some ⟨b, off * ie.size + n.toNat * ie.size, none⟩), ?_, ⟨rfl, fun _ => ⟨b, _, hL, by rw [Nat.add_mul]; rfl⟩⟩, hb1⟩
    have hu := run_underlying (hT.und_slice ht hk)
    have hz := hT.size he
    simp [execOp, ho, hv, h2, Instr.indexAt, asIntOf, hu, hz, hn.1, hn.2, Addr.add_mid]) k

theorem r_indexA {t e m : TypeId} {x y : Operand} {c : MC} {ik : IntKind} {n : Int} {i ie : TI} (hT : TOk P T) (ho : o.op = .indexAddr t x y) (hd : Oper.dok o s.m = true)
    (ht : T t = some i) (hk : i.k = .arr m e) (he : T e = some ie) (hx : evO s x = some (.one c)) (hy : evO s y = some (.one (.sc (.int ik n))))
    (hc : okP (look s.st) c = true) (hn : 0 ≤ n ∧ n < m) (k : K (s.put o.dst (.one (ptrAdd c (n.toNat * ie.size))))) : OpOK P o s K :=
  OpOK.val (Oper.dok_spec hd) (fun w0 wr A L F a w h => by
    obtain ⟨h1, hb1⟩ := evO_ok h hx
    obtain ⟨⟨h2, _⟩, _⟩ := evO_ok h hy
    obtain ⟨b, p, hv, hr⟩ := ptr_add (n.toNat * ie.size) h1 hc
    refine ⟨_, ?_, hr, ?_⟩
    · have hu := run_underlying (hT.und_arr ht hk)
      have hz := hT.size he
      simp [execOp, ho, hv, h2, Instr.indexAt, Instr.sureAddr, asIntOf, hu, hz, hn.1, hn.2, Addr.add_mid]
    · exact ptrAdd_bd hb1) k

/-- An int at the place of a slice's bound, or the bound that is meant. -/
def bnd (s : S) (d : Int) : Option Operand → Option Int
  | none => some d
  | some x => match evO s x with
    | some (.one (.sc (.int _ n))) => some n
    | _ => none

theorem bnd_ok {w0 : World} {wr : Wr} {A : Nat → Prop} {L : Lay} {F : FF} {a : Act} {w : World} (h : Rl w0 wr A L F s a w) {d n : Int} {x : Option Operand} (hb : bnd s d x = some n) :
    (x = none ∧ n = d) ∨ ∃ y ik, x = some y ∧ a.eval y = .int ik n := by
  cases x with
  | none => exact .inl ⟨rfl, (Option.some.inj hb).symm⟩
  | some y =>
    simp only [bnd] at hb
    split at hb
    · rename_i ik m he
      obtain rfl := Option.some.inj hb
      obtain ⟨⟨h1, _⟩, _⟩ := evO_ok h he
      exact .inr ⟨y, ik, rfl, h1⟩
    · cases hb

theorem run_sliceBounds {a : Act} {w : World} {len cap : Nat} {lo hi : Option Operand} {l h : Int}
    (hl : (lo = none ∧ l = 0) ∨ ∃ y ik, lo = some y ∧ a.eval y = .int ik l) (hh : (hi = none ∧ h = len) ∨ ∃ y ik, hi = some y ∧ a.eval y = .int ik h) (h0 : 0 ≤ l) (h1 : l ≤ h) (h2 : h ≤ cap) (hc : len ≤ cap) :
    (Instr.sliceBounds true len cap (lo.map a.eval) (hi.map a.eval) none).run P w = .ok (l.toNat, h.toNat, cap) w := by
  have h3 : (0 : Int) ≤ h := by omega
  have hb : ∀ (ik : IntKind) (n : Int) (m : Nat) (cd : BoundsCode), 0 ≤ n → n ≤ m → (Instr.sliceBound (.int ik n) m cd).run P w = .ok n.toNat w := fun ik n m cd p q => by
    simp [Instr.sliceBound, asIntOf, p, q]
  have hh' : (h.toNat : Int) = h := by omega
  rcases hl with ⟨rfl, rfl⟩ | ⟨y, ik, rfl, ey⟩ <;> rcases hh with ⟨rfl, rfl⟩ | ⟨z, ik', rfl, ez⟩
  · simp [Instr.sliceBounds]
  · simp [Instr.sliceBounds, ez, hb _ _ _ _ h3 h2]
  · simp [Instr.sliceBounds, ey, hb _ _ _ _ h0 h1]
  · simp [Instr.sliceBounds, ey, ez, hb _ _ _ _ h3 h2, hb ik l h.toNat .sliceB h0 (by omega)]

theorem r_sliceF {t e : TypeId} {x : Operand} {lo hi : Option Operand} {rows : List (List MC)} {l h : Int} {i ie : TI} (hT : TOk P T) (ho : o.op = .slice t x lo hi none) (hd : Oper.dok o s.m = true)
    (ht : T t = some i) (hk : i.k = .slice e) (he : T e = some ie) {c : MC} (hx : evO s x = some (.one c)) (hc : fzRows c = some rows) (hl : bnd s 0 lo = some l) (hh : bnd s rows.length hi = some h)
    (hn : 0 ≤ l ∧ l ≤ h ∧ h ≤ rows.length) (hz : ∀ r ∈ rows, r.length = ie.size) (k : K (s.put o.dst (.one (fzMk c ((rows.take h.toNat).drop l.toNat))))) : OpOK P o s K :=
  OpOK.val (Oper.dok_spec hd) (fun w0 wr A L F a w hr => by
    obtain ⟨h1, _⟩ := evO_ok hr hx
    obtain ⟨G, hG, _, hG2⟩ := fz_any h1 hc
    obtain ⟨b, cap, hv, hcap, hb⟩ := RF.fz_inv hG
    have hsb := run_sliceBounds (P := P) (w := w) (cap := cap) (bnd_ok hr hl) (bnd_ok hr hh) hn.1 hn.2.1 (by omega) hcap
    have hu := run_underlying (hT.und_slice ht hk)
    refine ⟨.slice (if cap = l.toNat then b else b.map (·.add (l.toNat * ie.size))) (h.toNat - l.toNat) (cap - l.toNat), ?_, hG2 _ _ ?_, by cases c <;> simp [fzRows] at hc <;> trivial⟩
    · simp [execOp, ho, hv, Instr.sliceAt, Instr.slice, hu, hT.size he, hsb]
    · have hlen : ((rows.take h.toNat).drop l.toNat).length = h.toNat - l.toNat := by simp; omega
      rw [← hlen]
      refine RF.mk (by rw [hlen]; omega) (fun hne => ?_)
      have hpos : 0 < h.toNat - l.toNat := by rw [← hlen]; exact List.length_pos_iff.2 hne
      obtain ⟨blk, off, st, rfl, hF, hs, hcs⟩ := hb (by intro e; subst e; simp at hn; omega)
      rw [if_neg (by omega)]
      have hr0 : rows[0]? = some (rows.getD 0 []) := by
        have : 0 < rows.length := by omega
        simp [List.getElem?_eq_getElem this]
      have hst : st = ie.size := by rw [← hs _ (List.mem_of_getElem? hr0)]; exact hz _ (List.mem_of_getElem? hr0)
      subst hst
      refine ⟨blk, off + l.toNat * ie.size, ie.size, by simp [Addr.add_mid], hF, fun r hr' => hz r (List.mem_of_mem_take (List.mem_of_mem_drop hr')), fun p j r c hp hj => ?_⟩
      rw [List.getElem?_drop, List.getElem?_take] at hp
      split at hp
      · obtain ⟨u, h1, h2⟩ := hcs _ j r c hp hj
        refine ⟨u, ?_, h2⟩
        rw [← h1]
        congr 2
        rw [Nat.add_mul]; omega
      · cases hp) k

theorem r_sliceR {t e : TypeId} {x : Operand} {lo hi : Option Operand} {id off len : Nat} {rows : List (List MC)} {l h : Int} {i ie : TI} (hT : TOk P T) (ho : o.op = .slice t x lo hi none) (hd : Oper.dok o s.m = true)
    (ht : T t = some i) (hk : i.k = .slice e) (he : T e = some ie) (hx : evO s x = some (.one (.ref id off len))) (hr : look s.st id = some (.arr rows)) (hl : bnd s 0 lo = some l) (hh : bnd s len hi = some h)
    (hn : 0 ≤ l ∧ l ≤ h ∧ h ≤ len) (hz : ∀ r ∈ rows, r.length = ie.size) (k : K (s.put o.dst (.one (.ref id (off + l.toNat) (h.toNat - l.toNat))))) : OpOK P o s K :=
  OpOK.val (Oper.dok_spec hd) (fun w0 wr A L F a w hR => by
    obtain ⟨h1, hb1⟩ := evO_ok hR hx
    have hu := run_underlying (hT.und_slice ht hk)
    obtain ⟨b, cap, hv, hle, hx'⟩ := h1.2 rows hr
    have hcap : len ≤ cap := by rcases hx' with ⟨_, _, _, _, hc, _, _⟩ | ⟨h0, _⟩ <;> omega
    have hsb := run_sliceBounds (P := P) (w := w) (cap := cap) (bnd_ok hR hl) (bnd_ok hR hh) hn.1 hn.2.1 (by omega) hcap
    refine ⟨.slice (if cap = l.toNat then b else b.map (·.add (l.toNat * ie.size))) (h.toNat - l.toNat) (cap - l.toNat), ?_, ⟨rfl, fun rows' hr' => ?_⟩, hb1⟩
    · simp [execOp, ho, hv, Instr.sliceAt, Instr.slice, hu, hT.size he, hsb]
    · rw [hr] at hr'
      obtain rfl : rows = rows' := by simpa using hr'
      refine ⟨_, _, rfl, by omega, ?_⟩
      rcases hx' with ⟨blk, st, hL, rfl, hc, hre, hj⟩ | ⟨h0, h00⟩
      · by_cases hcl : cap = l.toNat
        · exact .inr (by omega)
        · rw [if_neg hcl]
          · have hr0 : rows[0]? = some (rows.getD 0 []) := by
              have : 0 < rows.length := List.length_pos_iff.2 hre
              simp [List.getElem?_eq_getElem this]
            rcases hR.ob id _ hr with ⟨hr0', _⟩ | ⟨b', st', hL', _, hs, _⟩
            · exact absurd hr0' hre
            · rw [hL] at hL'
              obtain ⟨rfl, rfl⟩ := Prod.mk.inj (Option.some.inj hL')
              have hst : st = ie.size := by rw [← hs _ (List.mem_of_getElem? hr0)]; exact hz _ (List.mem_of_getElem? hr0)
              subst hst
              refine .inl ⟨blk, ie.size, hL, by simp [Addr.add_mid, Nat.add_mul], by omega, hre, fun j hj' => hj j ?_⟩
              rw [show off + l.toNat + (cap - l.toNat) = off + cap by omega] at hj'
              exact hj'
      · exact .inr (by omega)) k

end Mg
