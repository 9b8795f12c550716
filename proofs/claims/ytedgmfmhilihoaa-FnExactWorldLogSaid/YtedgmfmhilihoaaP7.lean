/- Parts of the abstract state logic and of the walks, one behind the other: Mg29, Mg32, Mg15. No condition. -/
import Derived.Test.YtedgmfmhilihoaaP6
import Derived.Test.YtedgmfmhilihoaaP3
import Derived.Test.YtedgmfmhilihoaaP5
/- The abstract state logic, part 29: a list that is built and written no more. No condition. -/
namespace Mg
open Go Go.RowKit
set_option linter.unusedVariables false

variable {P : Program} {T : Tab} {o : Oper} {s : S} {K : S → Prop}

theorem chunk_mem {n sz : Nat} {l : List MC} {r : List MC} (hr : r ∈ chunk n sz l) {x : MC} (hx : x ∈ r) : x ∈ l := by
  obtain ⟨i, hi⟩ := List.getElem?_of_mem hr
  rw [chunk_get] at hi
  split at hi
  · obtain rfl := Option.some.inj hi
    exact List.mem_of_mem_drop (List.mem_of_mem_take hx)
  · cases hi
def MC.nf : MC → MC
  | .nil => .fz []
  | c => c
theorem MC.nf_frz {c : MC} (h : c.frz = true) : c.nf = c := by cases c <;> first | rfl | cases h
theorem RC.nf {st : Sto} {L : Lay} {w : World} {F : FF} {c : MC} {v : Value} (h : RC st L w F c v) : RC st L w F c.nf v := by
  cases c with
  | nil => obtain ⟨a, rfl⟩ := h; exact RF.nilz a 0
  | _ => exact h
theorem MC.nf_bd {c : MC} {n : Nat} (h : c.bd n) : c.nf.bd n := by cases c <;> exact h
@[reducible] def nfR (rows : List (List MC)) : List (List MC) := rows.map fun r => r.map MC.nf
theorem nfR_frz {rows : List (List MC)} (h : AllF rows) : nfR rows = rows := by
  have e : ∀ r ∈ rows, r.map MC.nf = r := fun r hr => by
    have : ∀ c ∈ r, MC.nf c = c := fun c hc => MC.nf_frz (h r hr c hc)
    rw [List.map_congr_left this, List.map_id']
  rw [nfR, List.map_congr_left e, List.map_id']
/-- Nothing, in an object, read as an empty list. -/
theorem Rl.nf {w0 : World} {wr : Wr} {A : Nat → Prop} {L : Lay} {F : FF} {s : S} {a : Act} {w : World} (h : Rl w0 wr A L F s a w) {id : Nat} {rows : List (List MC)} (hid : look s.st id = some (.arr rows)) :
    Rl w0 wr A L F (s.set id (.arr (nfR rows))) a w := by
  have hi : ∀ x : MC, ∀ u, RC (look s.st) L w F x u → RC (look (s.set id (.arr (nfR rows))).st) L w F x u := fun x u hr =>
    RC.set hid (o' := .arr (nfR rows)) (show rows.length ≤ (nfR rows).length by simp [nfR]) (fun _ _ => rfl) (fun _ _ _ _ _ _ hj => hj) hr
  refine ⟨h.os, h.tape, h.output, h.size, h.keep, h.kc, h.pin, h.fa, h.fn, h.fsz, ?_, ?_, ?_, h.sz, ?_, ?_, h.ben, h.df⟩
  · intro i x hx
    by_cases e : i = id
    · subst e
      have : x = .arr (nfR rows) := by simpa [S.set, look_upd, hid] using hx.symm
      subst this
      rcases h.ob i _ hid with ⟨rfl, h1⟩ | ⟨b, t, h1, h2, h3, h4⟩
      · exact .inl ⟨rfl, h1⟩
      · refine .inr ⟨b, t, h1, h2, fun r hr => ?_, fun k r hk j x hj => ?_⟩
        · obtain ⟨r0, hr0, rfl⟩ := List.mem_map.1 hr
          rw [List.length_map]; exact h3 r0 hr0
        · rw [nfR, List.getElem?_map] at hk
          obtain ⟨r0, hr0, rfl⟩ := Option.map_eq_some_iff.1 hk
          rw [List.getElem?_map] at hj
          obtain ⟨x0, hx0, rfl⟩ := Option.map_eq_some_iff.1 hj
          obtain ⟨u, hu, hru⟩ := h4 k r0 hr0 j x0 hx0
          exact ⟨u, hu, (hi x0 u hru).nf⟩
    · rw [look_set_ne e] at hx
      exact (h.ob i x hx).imp (h.bst i x hx).2 rfl (fun k t' hk => rfl) (fun x _ u hr => hi x u hr)
  · intro i k t' h1 h2
    rw [look_set_some hid] at h1
    exact h.own i k t' h1 h2
  · intro i j k t1 t2 h1 h2 h3 h4
    rw [look_set_some hid] at h1 h2
    exact h.inj i j k t1 t2 h1 h2 h3 h4
  · intro t' v hv
    exact (h.env t' v hv).imp (h.ben t' v hv) (fun x _ u hr => hi x u hr)
  · intro i x hx
    by_cases e : i = id
    · subst e
      have : x = .arr (nfR rows) := by simpa [S.set, look_upd, hid] using hx.symm
      subst this
      have hb := h.bst i _ hid
      refine ⟨hb.1, ?_⟩
      have h2 : ∀ r ∈ rows, ∀ c ∈ r, c.bd s.n := hb.2
      show ∀ r ∈ nfR rows, ∀ c ∈ r, c.bd s.n
      intro r hr c hc
      obtain ⟨r0, hr0, rfl⟩ := List.mem_map.1 hr
      obtain ⟨c0, hc0, rfl⟩ := List.mem_map.1 hc
      exact MC.nf_bd (h2 r0 hr0 c0 hc0)
    · rw [look_set_ne e] at hx
      exact h.bst i x hx

theorem freeze_new {rows : List (List MC)} {d : Nat} (hdst : o.dst = some d) (hall : AllF rows)
    (hop : OpOK P o s (fun s1 => s1 = (s.new (.arr rows)).put o.dst (.one (.ref s.n 0 rows.length)))) (k : K (s.put o.dst (.one (.fz rows)))) : OpOK P o s K := by
  intro w0 wr A a w Q K' hg hrel hK
  obtain ⟨L0, F0, h0⟩ := hrel
  refine hop w0 wr A a w Q K' hg ⟨L0, F0, h0⟩ fun s' a' w' hrel' hs' => ?_
  subst hs'
  obtain ⟨L, F, h⟩ := hrel'
  have hlk : look ((s.new (.arr rows)).put o.dst (.one (.ref s.n 0 rows.length))).st s.n = some (.arr rows) := by
    rw [hdst]; simp [S.put, S.new, look_cons]
  obtain ⟨F', h1, hle, hrc, hout, hfz⟩ := frz_all [s.n] h (by simp) (fun id hid => by
    obtain rfl : id = s.n := by simpa using hid
    exact ⟨_, hlk, hall⟩)
  have hslot : RC (look ((s.new (.arr rows)).put o.dst (.one (.ref s.n 0 rows.length))).st) L w' F (.ref s.n 0 rows.length) (a'.tmps.getD d undef) :=
    h.env d (.one (.ref s.n 0 rows.length)) (by rw [hdst]; simp [S.put, S.new, look_cons])
  have hv := hfz s.n (by simp) _ hlk 0 rows.length _ hslot
  rw [List.drop_zero, List.take_of_length_le (Nat.le_refl _)] at hv
  have hbd : (MC.fz rows).bd s.n := trivial
  -- the slot, read as frozen
  have h2 : Rl w0 wr A L F' { (((s.new (.arr rows)).put o.dst (.one (.ref s.n 0 rows.length))).dels [s.n]) with env := (d, .one (.fz rows)) :: (((s.new (.arr rows)).put o.dst (.one (.ref s.n 0 rows.length))).dels [s.n]).env } a' w' := by
    refine ⟨h1.os, h1.tape, h1.output, h1.size, h1.keep, h1.kc, h1.pin, h1.fa, h1.fn, h1.fsz, h1.ob, h1.own, h1.inj, h1.sz, fun t' v hv' => ?_, h1.bst, fun t' v hv' => ?_, h1.df⟩
    · simp only [look_cons] at hv'
      by_cases e : t' = d
      · rw [if_pos e] at hv'
        obtain rfl := Option.some.inj hv'
        subst e
        exact hv
      · rw [if_neg e] at hv'; exact h1.env t' v hv'
    · simp only [look_cons] at hv'
      by_cases e : t' = d
      · rw [if_pos e] at hv'
        obtain rfl := Option.some.inj hv'
        trivial
      · rw [if_neg e] at hv'; exact h1.ben t' v hv'
  refine hK _ a' w' ⟨L, F', h2.weaken (s' := s.put o.dst (.one (.fz rows))) ⟨?_, ?_, ?_⟩ ?_⟩ k
  · rw [hdst]; rfl
  · intro t' v hv'
    rw [hdst] at hv' ⊢
    simp only [S.put, S.dels, S.new, look_cons] at hv' ⊢
    by_cases e : t' = d
    · rw [if_pos e] at hv' ⊢
      obtain rfl := Option.some.inj hv'
      exact ⟨rfl, trivial⟩
    · rw [if_neg e] at hv' ⊢
      rw [if_neg e]
      exact ⟨hv', h0.ben t' v hv'⟩
  · intro id q hq
    have hq : look s.st id = some q := by rw [hdst] at hq; exact hq
    have hb' := h0.bst id q hq
    have hne : id ≠ s.n := Nat.ne_of_lt hb'.1
    refine ⟨?_, by rw [hdst]; exact hb'.1, by rw [hdst]; exact hb'.2⟩
    rw [hdst]
    show look (del ((s.n, Ob.arr rows) :: s.st) s.n) id = some q
    rw [look_del, if_neg hne, look_cons, if_neg hne]; exact hq
  · intro i hi
    rw [hdst]
    exact (h0.pin i hi).2

theorem freeze_newN {rows : List (List MC)} {d : Nat} (hdst : o.dst = some d) (hall : AllF (nfR rows))
    (hop : OpOK P o s (fun s1 => s1 = (s.new (.arr rows)).put o.dst (.one (.ref s.n 0 rows.length)))) (k : K (s.put o.dst (.one (.fz (nfR rows))))) : OpOK P o s K := by
  refine freeze_new (rows := nfR rows) hdst hall ?_ k
  intro w0 wr A a w Q K' hg hrel hK
  refine hop w0 wr A a w Q K' hg hrel fun s' a' w' hrel' hs' => ?_
  subst hs'
  obtain ⟨L, F, h⟩ := hrel'
  have hlk : look ((s.new (.arr rows)).put o.dst (.one (.ref s.n 0 rows.length))).st s.n = some (.arr rows) := by
    rw [hdst]; simp [S.put, S.new, look_cons]
  have hl : (nfR rows).length = rows.length := by simp [nfR]
  refine hK _ a' w' ⟨L, F, Lk.rl ⟨?_, ?_, ?_, fun t => ?_⟩ (h.nf hlk)⟩ rfl
  · rw [hdst]; rfl
  · rw [hdst]; rfl
  · rw [hdst]; simp [S.put, S.new, S.set, upd]
  · rw [hdst, hl]; rfl
theorem r_buildSliceF {t e : TypeId} {parts : Array (Nat × Operand)} {len : Nat} {i ie : TI} {p : Prop} {res : List MC} (hT : TOk P T) (ho : o.op = .buildSlice t len parts) (hd : Oper.dok o s.m = true) {d : Nat} (hdst : o.dst = some d)
    (ht : T t = some i) (hk : i.k = .slice e) (he : T e = some ie) (hl : 0 < len ∧ 0 < ie.size ∧ len * ie.size ≤ 16777216)
    (hf : fillM s T (fun j => some (j * ie.size, ie.size)) (zrep (ie.z.map ZC.mc) len) parts.toList = some (p, res)) (hp : p) (hr : res.length = len * ie.size) (hb : ∀ x ∈ res, x.nf.frz = true)
    (k : K (s.put o.dst (.one (.fz (nfR (chunk len ie.size res)))))) : OpOK P o s K := by
  have hclen : (chunk len ie.size res).length = len := chunk_len _ _ _
  have hall : AllF (nfR (chunk len ie.size res)) := fun r hr x hx => by
    obtain ⟨r0, hr0, rfl⟩ := List.mem_map.1 hr
    obtain ⟨x0, hx0, rfl⟩ := List.mem_map.1 hx
    exact hb x0 (chunk_mem hr0 hx0)
  refine freeze_newN hdst hall ?_ k
  rw [hclen]
  refine r_buildSlice hT ho hd ht hk he hl hf hp hr (fun x hx => ?_) rfl
  have := hb x hx
  cases x <;> first | trivial | cases this
/-- 'append' to nothing, written no more. -/
theorem r_appendF {x y : Operand} {t t2 e : TypeId} {c : MC} {rows2 : List (List MC)} {i ie i2 : TI} (hT : TOk P T)
    (ho : o.op = .call { callee := .builtin .append, args := #[x, y], argTypes := #[t, t2] }) (hd : Oper.dok o s.m = true) {d : Nat} (hdst : o.dst = some d)
    (ht : T t = some i) (hk : i.k = .slice e) (he : T e = some ie) (ht2 : T t2 = some i2) (hk2 : i2.k = .slice e) (hx : evO s x = some (.one .nil)) (hy : evO s y = some (.one c))
    (hr : rowsOf s c = some rows2) (hs2 : ∀ r ∈ rows2, r.length = ie.size) (hsz : rows2.length * ie.bytes ≤ 140737488355328) (hsz' : rows2.length ≤ 140737488355328) (hall : AllF rows2)
    (k : K (s.put o.dst (.one (.fz rows2)))) : OpOK P o s K := by
  refine freeze_new hdst hall ?_ k
  refine r_append (rows := []) (st := s.st) hT ho hd ht hk he ht2 hk2 hx hy rfl (fun _ _ _ h => by cases h) hr (fun _ h => by cases h) hs2 (by simpa using hsz) (by simpa using hsz') ?_
  simp only [List.nil_append, List.length_nil, Nat.zero_add]
  rfl

end Mg

/- The abstract state logic, part 32: copy. No condition. -/
namespace Mg
open Go Go.RowKit
set_option linter.unusedVariables false

variable {P : Program} {T : Tab} {o : Oper} {s : S} {K : S → Prop}

theorem r_copy {x y : Operand} {t t2 e : TypeId} {id n : Nat} {d : MC} {rows rows2 : List (List MC)} {i ie : TI} (hT : TOk P T)
    (ho : o.op = .call { callee := .builtin .copy, args := #[x, y], argTypes := #[t, t2] }) (hd : Oper.dok o s.m = true)
    (ht : T t = some i) (hk : i.k = .slice e) (he : T e = some ie) (hx : evO s x = some (.one (.ref id 0 n))) (hy : evO s y = some (.one d))
    (hlk : look s.st id = some (.arr rows)) (hn : n = rows.length) (hr : rowsOf s d = some rows2) (hlen : rows2.length = rows.length) (hpos : 0 < rows.length)
    (hs : ∀ r ∈ rows, r.length = ie.size) (hs2 : ∀ r ∈ rows2, r.length = ie.size)
    (k : K ((s.set id (.arr rows2)).put o.dst (.one (.sc (.int .i64 rows2.length))))) : OpOK P o s K := by
  intro w0 wr A a w Q K' hg ⟨L, F, hR⟩ hK
  obtain ⟨h1, hb1⟩ := evO_ok hR hx
  obtain ⟨h2, hb2⟩ := evO_ok hR hy
  have h1 := h1.of_one
  have h2 := h2.of_one
  have hu := hT.und_slice ht hk
  obtain ⟨sb, sc, news, hsv, hscap, hfn, hln⟩ := src_cells (P := P) hR h2 hr hs2
  obtain ⟨a0, cap, hbv, hle, hor⟩ := h1.2 rows hlk
  have hne : rows ≠ [] := by rintro rfl; simp at hpos
  rcases hor with hor | ⟨h0, _⟩
  rotate_left
  · omega
  obtain ⟨b, st, hL, rfl, _, _, _⟩ := hor
  rcases hR.ob id _ hlk with ⟨h99, _⟩ | ⟨b', st'', hL', hfree, hs', hw⟩
  · exact absurd h99 hne
  rw [hL] at hL'
  obtain ⟨rfl, rfl⟩ := Prod.mk.inj (Option.some.inj hL')
  have hst' : st = ie.size := by
    obtain ⟨r0, rs, rfl⟩ := List.exists_cons_of_ne_nil hne
    rw [← hs' r0 (by simp), hs r0 (by simp)]
  subst hst'
  have hnl : news.length = rows2.length * ie.size := hfn.1
  have hcells : ∀ j, j < news.length → (w.cell? ⟨b, 0 + j, none⟩).isSome = true := fun j hj => by
    have hz : 0 < ie.size := Nat.pos_of_ne_zero (fun e => by rw [e, Nat.mul_zero] at hnl; omega)
    have hi : j / ie.size < rows.length := (Nat.div_lt_iff_lt_mul hz).2 (by rw [← hlen, ← hnl]; exact hj)
    have hri := List.getElem?_eq_getElem hi
    have hj2 : j % ie.size < (rows[j / ie.size]).length := by rw [hs' _ (List.getElem_mem hi)]; exact Nat.mod_lt _ hz
    obtain ⟨u, hu', _⟩ := hw _ _ hri _ _ (List.getElem?_eq_getElem hj2)
    have : j / ie.size * ie.size + j % ie.size = 0 + j := by have := Nat.div_add_mod' j ie.size; omega
    rw [← this, hu']; rfl
  have hst := run_storeCells_cells (P := P) b 0 news 0 w (by simpa using hcells) (fun j _ => hfree _) hfn.2.1
  simp only [Nat.add_zero] at hst
  have hrun : (execOp a.eval o).run P w = .ok (.value (.int .i64 rows2.length)) (w.setCells b 0 news) := by
    have h3 := hln w rfl
    simp only [execOp, ho, resolve, invoke, builtin, Sem.run_bind, Sem.run_pure, Result.andThen_ok, List.map_toArray, List.map_cons, List.map_nil]
    rw [hbv, hsv]
    rw [hsv] at h3
    have hmin : Nat.min rows2.length n = rows2.length := by rw [hn, ← hlen]; exact Nat.min_self _
    simp [Builtin.copy_, run_underlying hu, hT.size he, Builtin.lenOf, hmin, h3, hst, goInt]
  have hbd' : (Ob.arr rows2).bd s.n := hfn.2.2.1
  have hfz : Free (w.setCells b 0 news) b := fun j => by rw [World.frozen?_setCells]; exact hfree j
  have hstore := hR.store (p := 0) (o' := .arr rows2) hlk hL (by simp [Ob.like, hlen]) hcells hbd' (fun hi => by
    refine .inr ⟨b, ie.size, hL, hfz, hs2, fun i r hri j x hj => ?_⟩
    obtain ⟨u, hu', hru⟩ := hfn.2.2.2 _ j r x hri hj
    refine ⟨u, ?_, hi x u hru⟩
    have hm : i * ie.size + j < news.length := (List.getElem?_eq_some_iff.1 hu').1
    have := World.cell?_setCells_in b news 0 w hcells _ hm
    rw [Nat.zero_add] at this
    rw [this]
    rw [List.getElem?_eq_getElem hm] at hu'
    exact hu')
  unfold Oper.wp
  rw [hrun]
  have hv : RV (look (s.set id (.arr rows2)).st) L (w.setCells b 0 news) F (.one (.sc (.int .i64 rows2.length))) (.int .i64 rows2.length) := ⟨rfl, rfl⟩
  exact hK _ _ _ ⟨L, F, hstore.put (Oper.dok_spec hd) hv trivial⟩ k
end Mg

/- The abstract state logic, part 15: every operation's step, and regions, reckoned. No condition. -/
namespace Mg
open Go Go.RowKit
set_option linter.unusedVariables false

variable {P : Program} {T : Tab}

/-- A made list, as a hint says: 'nothing' in it read as an empty list. -/
def nfH : Option Hint → List (List MC) → List (List MC)
  | some (.row _), rows => nfR rows
  | _, rows => rows
theorem new_nfH {o : Oper} {s : S} {K : S → Prop} {h : Option Hint} {rows : List (List MC)} {v : MV} (hop : ∀ K : S → Prop, K ((s.new (.arr rows)).put o.dst v) → OpOK P o s K) (k : K ((s.new (.arr (nfH h rows))).put o.dst v)) : OpOK P o s K := by
  unfold nfH at k
  split at k
  · intro w0 wr A a w Q K' hg hrel hK
    refine hop (fun s1 => s1 = (s.new (.arr rows)).put o.dst v) rfl w0 wr A a w Q K' hg hrel fun s' a' w' hrel' hs' => ?_
    subst hs'
    obtain ⟨L, F, h⟩ := hrel'
    have hlk : look ((s.new (.arr rows)).put o.dst v).st s.n = some (.arr rows) := by
      cases o.dst <;> simp [S.put, S.new, look_cons]
    refine hK _ a' w' ⟨L, F, Lk.rl ⟨?_, ?_, ?_, fun t => ?_⟩ (h.nf hlk)⟩ k
    · cases o.dst <;> rfl
    · cases o.dst <;> rfl
    · cases o.dst <;> simp [S.put, S.new, S.set, upd]
    · cases o.dst <;> rfl
  · exact hop K k

def stepIx (T : Tab) (h : Option Hint) (s : S) (o : Oper) (t : TypeId) (x y : Operand) : Option (Prop × S) :=
  match T t, evO s x, evO s y with
  | some i, some (.one c), some (.one (.sc (.int k n))) => match i.k with
    | .slice e => match T e with
      | some ie => match fzRows c, rowH h n with
        | some rows, some (.row row) => some (0 ≤ n ∧ rows[n.toNat]? = some row ∧ row.length = ie.size, s.put o.dst (.one (fzPtr c row)))
        | some _, _ => none
        | none, h => match c with
          | .ref id off len => match look s.st id, h with
            | some (.arr rows), some (.row row) => some ((0 ≤ n ∧ n < len) ∧ rows[off + n.toNat]? = some row ∧ row.length = ie.size, s.put o.dst (.one (.ptr id (off + n.toNat) 0)))
            | some (.arr rows), _ => some ((0 ≤ n ∧ n < len) ∧ off + n.toNat < rows.length ∧ (rows.getD (off + n.toNat) []).length = ie.size, s.put o.dst (.one (.ptr id (off + n.toNat) 0)))
            | _, _ => none
          | _ => none
      | none => none
    | .arr m e => match T e, okP (look s.st) c with
      | some ie, true => some (0 ≤ n ∧ n < m, s.put o.dst (.one (ptrAdd c (n.toNat * ie.size))))
      | _, _ => none
    | _ => none
  | _, _, _ => none

def stepAp (T : Tab) (s : S) (o : Oper) : List Operand → List TypeId → Option (Prop × S)
  | [x, y], [t, t2] => match T t, T t2, evO s x, evO s y with
    | some i, some i2, some (.one c), some (.one d) => match i.k, i2.k with
      | .slice e, .slice e2 => match T e, base? s c, rowsOf s d with
        | some ie, some (rows, st), some rows2 => if e = e2 then
            some ((match c with | .ref _ _ len => len = rows.length | _ => True) ∧ (∀ r ∈ rows, r.length = ie.size) ∧ (∀ r ∈ rows2, r.length = ie.size) ∧ (rows.length + rows2.length) * ie.bytes ≤ 140737488355328 ∧ rows.length + rows2.length ≤ 140737488355328,
              (s.app (rows ++ rows2) st).put o.dst (.one (.ref s.n 0 (rows.length + rows2.length)))) else none
        | _, _, _ => none
      | _, _ => none
    | _, _, _, _ => none
  | _, _ => none

/-- 'append' to nothing, with a hint: the list is written no more. -/
def stepApF (T : Tab) (s : S) (d : Nat) (r : MV) : List Operand → List TypeId → Option (Prop × S)
  | [x, y], [t, t2] => match T t, T t2, evO s x, evO s y with
    | some i, some i2, some (.one .nil), some (.one c) => match i.k, i2.k with
      | .slice e, .slice e2 => match T e, rowsOf s c with
        | some ie, some rows2 => if e = e2 then
            some ((∀ r ∈ rows2, r.length = ie.size) ∧ rows2.length * ie.bytes ≤ 140737488355328 ∧ rows2.length ≤ 140737488355328 ∧ AllF rows2 ∧ r = .one (.fz rows2), s.put (some d) r) else none
        | _, _ => none
      | _, _ => none
    | _, _, _, _ => none
  | _, _ => none

/-- 'copy' of as many rows as there are. -/
def stepCp (T : Tab) (s : S) (o : Oper) : List Operand → List TypeId → Option (Prop × S)
  | [x, y], [t, _] => match T t, evO s x, evO s y with
    | some i, some (.one (.ref id 0 n)), some (.one c) => match i.k with
      | .slice e => match T e, look s.st id, rowsOf s c with
        | some ie, some (.arr rows), some rows2 =>
            some (n = rows.length ∧ rows2.length = rows.length ∧ 0 < rows.length ∧ (∀ r ∈ rows, r.length = ie.size) ∧ (∀ r ∈ rows2, r.length = ie.size),
              (s.set id (.arr rows2)).put o.dst (.one (.sc (.int .i64 rows2.length))))
        | _, _, _ => none
      | _ => none
    | _, _, _ => none
  | _, _ => none

def stepB (P : Program) (T : Tab) (s : S) (op : BinOp) (t : TypeId) (x y : Operand) (yt : TypeId) : Option (Prop × MV) :=
  match evO s x, evO s y with
  | some (.agg xs), some (.agg ys) => match T t with
    | some i => match i.k, eqT T 8 t xs ys with
      | .struct _, some b => match op with
        | .eql => some (Chk (eqOk P 8 t && !P.eqGuardType P.depth t), .one (.sc (.bool b)))
        | .neq => some (Chk (eqOk P 8 t && !P.eqGuardType P.depth t), .one (.sc (.bool !b)))
        | _ => none
      | _, _ => none
    | none => none
  | _, _ => stepV T s (.binOp op t x y yt)

/-- 'Nothing' in a value, read as an empty list. -/
def nfV : MV → MV
  | .one c => .one c.nf
  | .agg cs => .agg (cs.map MC.nf)
  | v => v
theorem RV.nf {st : Sto} {L : Lay} {w : World} {F : FF} {x : MV} {v : Value} (h : RV st L w F x v) : RV st L w F (nfV x) v := by
  cases x with
  | one c => exact RC.nf h
  | agg cs =>
    obtain ⟨arr, rfl, h1, h2⟩ := h
    refine ⟨arr, rfl, by simpa using h1, fun j c hj => ?_⟩
    rw [List.getElem?_map] at hj
    obtain ⟨d, hd, rfl⟩ := Option.map_eq_some_iff.1 hj
    obtain ⟨u, hu, hr⟩ := h2 j d hd
    exact ⟨u, hu, hr.nf⟩
  | _ => exact h
theorem MV.nf_bd {x : MV} {n : Nat} (h : x.bd n) : (nfV x).bd n := by
  cases x with
  | one c => exact MC.nf_bd h
  | agg cs =>
    intro c hc
    obtain ⟨d, hd, rfl⟩ := List.mem_map.1 hc
    exact MC.nf_bd (h d hd)
  | _ => exact h
theorem put_nf {o : Oper} {s : S} {K : S → Prop} {v : MV} (hop : ∀ K : S → Prop, K (s.put o.dst v) → OpOK P o s K) (k : K (s.put o.dst (nfV v))) : OpOK P o s K := by
  intro w0 wr A a w Q K' hg hrel hK
  refine hop (fun s1 => s1 = s.put o.dst v) rfl w0 wr A a w Q K' hg hrel fun s' a' w' hrel' hs' => ?_
  subst hs'
  obtain ⟨L, F, h⟩ := hrel'
  refine hK _ a' w' ⟨L, F, ?_⟩ k
  cases hd : o.dst with
  | none => rw [hd] at h; exact h
  | some d =>
    rw [hd] at h
    refine ⟨h.os, h.tape, h.output, h.size, h.keep, h.kc, h.pin, h.fa, h.fn, h.fsz, h.ob, h.own, h.inj, h.sz, fun t u hu => ?_, h.bst, fun t u hu => ?_, h.df⟩
    · simp only [S.put, look_cons] at hu
      by_cases e : t = d
      · rw [if_pos e] at hu
        obtain rfl := Option.some.inj hu
        exact (h.env t v (by simp only [S.put, look_cons]; rw [if_pos e])).nf
      · rw [if_neg e] at hu
        exact h.env t u (by simp only [S.put, look_cons]; rw [if_neg e]; exact hu)
    · simp only [S.put, look_cons] at hu
      by_cases e : t = d
      · rw [if_pos e] at hu
        obtain rfl := Option.some.inj hu
        exact MV.nf_bd (h.ben t v (by simp only [S.put, look_cons]; rw [if_pos e]))
      · rw [if_neg e] at hu
        exact h.ben t u (by simp only [S.put, look_cons]; rw [if_neg e]; exact hu)
/-- A value that was read, as a hint says it. -/
def fixV : Option Hint → Prop × MV → Prop × MV
  | some (.res r), q => (q.1 ∧ q.2 = r, r)
  | some (.resf g), q => (q.1 ∧ q.2 = g [q.2], g [q.2])
  | some (.row _), q => (q.1, nfV q.2)
  | _, q => q
theorem fixV_ok {h : Option Hint} {q : Prop × MV} (hp : (fixV h q).1) : q.1 ∧ ((fixV h q).2 = q.2 ∨ (fixV h q).2 = nfV q.2) := by
  unfold fixV at hp ⊢
  split at hp
  · exact ⟨hp.1, .inl hp.2.symm⟩
  · exact ⟨hp.1, .inl hp.2.symm⟩
  · exact ⟨hp, .inr rfl⟩
  · exact ⟨hp, .inl rfl⟩

/-- One operation. -/
def stepF (P : Program) (T : Tab) (h : Option Hint) (s : S) (o : Oper) : Option (Prop × S) :=
  match Oper.dok o s.m with
  | false => none
  | true => match o.op with
    | .indexAddr t x y => stepIx T h s o t x y
    | .call c => match c.callee with
      | .value (.func f) => match lend s c.args.toList, h with
        | some (p, ds), some (.res r) => some (p ∧ Pure P false f ds r, (adV s r).2.put o.dst (adV s r).1)
        | some (p, ds), some (.resf g) => some (p ∧ Pure P false f ds (g ds), (adV s (g ds)).2.put o.dst (adV s (g ds)).1)
        | _, _ => none
      | .value (.tmp t) => match calleeF s t, lend s c.args.toList, h with
        | some f, some (p, ds), some (.res r) => some (p ∧ Pure P false f ds r, (adV s r).2.put o.dst (adV s r).1)
        | some f, some (p, ds), some (.resf g) => some (p ∧ Pure P false f ds (g ds), (adV s (g ds)).2.put o.dst (adV s (g ds)).1)
        | _, _, _ => none
      | .builtin .append => match h, o.dst with
        | some (.res r), some d => stepApF T s d r c.args.toList c.argTypes.toList
        | _, _ => stepAp T s o c.args.toList c.argTypes.toList
      | .builtin .copy => stepCp T s o c.args.toList c.argTypes.toList
      | _ => (stepV T s (.call c)).map fun q => (q.1, s.put o.dst q.2)
    | .makeFunc f ⟨[]⟩ ⟨[]⟩ => some (True, s.put o.dst (.one (.sc (.func f #[] #[]))))
    | .box t x => match (evO s x).bind mvCells with
      | some cs => some (True, (s.new (.box cs)).put o.dst (.one (.ptr s.n 0 0)))
      | none => none
    | .alloc t => match T t with
      | some i => some (True, (s.new (.box (i.z.map ZC.mc))).put o.dst (.one (.ptr s.n 0 0)))
      | none => none
    | .store t x y => match o.dst, T t, evO s x, (evO s y).bind mvCells with
      | none, some i, some (.one (.ptr id r f)), some cs => match look s.st id with
        | some ob => (obPut ob r f cs).map fun q => (q.1 ∧ cs.length = i.size, s.set id q.2)
        | none => none
      | _, _, _, _ => none
    | .build t parts => match T t with
      | some i => match i.k with
        | .struct l => (fillM s T (fun j => (l[j]?).bind fun q => (T q.2).map fun fi => (q.1, fi.size)) (i.z.map ZC.mc) parts.toList).map fun q => (q.1 ∧ (∀ g ∈ l, (T g.2).isSome = true), s.put o.dst (.agg q.2))
        | .arr m e => match T e with
          | some ie => (fillM s T (fun j => some (j * ie.size, ie.size)) (i.z.map ZC.mc) parts.toList).map fun q => (q.1, s.put o.dst (.agg q.2))
          | none => none
        | _ => none
      | none => none
    | .makeSlice t (.tmp x) (.tmp y) => match T t, evO s (.tmp x) with
      | some i, some (.one (.sc (.int k n))) => match i.k with
        | .slice e => match T e with
          | some ie => if x = y then some (0 ≤ n ∧ n ≤ 281474976710656 ∧ ie.bytes * n ≤ 281474976710656, (s.new (.arr (nfH h (List.replicate n.toNat (ie.z.map ZC.mc))))).put o.dst (.one (.ref s.n 0 n.toNat))) else none
          | none => none
        | _ => none
      | _, _ => none
    | .makeSlice t (.const (.int .i64 m)) (.const (.int .i64 m')) => match T t with
      | some i => match i.k with
        | .slice e => match T e with
          | some ie => if m = m' then some (0 ≤ m ∧ m ≤ 281474976710656 ∧ ie.bytes * m ≤ 281474976710656, (s.new (.arr (nfH h (List.replicate m.toNat (ie.z.map ZC.mc))))).put o.dst (.one (.ref s.n 0 m.toNat))) else none
          | none => none
        | _ => none
      | _ => none
    | .buildSlice t len parts => match T t with
      | some i => match i.k with
        | .slice e => match T e with
          | some ie => match len with
            | 0 => if parts.toList.isEmpty = true then some (True, s.put o.dst (.one .nil)) else none
            | n + 1 => match h, o.dst with
              | some (.row _), some d => (fillM s T (fun j => some (j * ie.size, ie.size)) (zrep (ie.z.map ZC.mc) (n + 1)) parts.toList).map fun q =>
                (q.1 ∧ (0 < ie.size ∧ (n + 1) * ie.size ≤ 16777216) ∧ q.2.length = (n + 1) * ie.size ∧ (∀ x ∈ q.2, x.nf.frz = true), s.put (some d) (.one (.fz (nfR (chunk (n + 1) ie.size q.2)))))
              | _, _ => (fillM s T (fun j => some (j * ie.size, ie.size)) (zrep (ie.z.map ZC.mc) (n + 1)) parts.toList).map fun q =>
                (q.1 ∧ (0 < ie.size ∧ (n + 1) * ie.size ≤ 16777216) ∧ q.2.length = (n + 1) * ie.size ∧ (∀ x ∈ q.2, x.bd s.n), (s.new (.arr (chunk (n + 1) ie.size q.2))).put o.dst (.one (.ref s.n 0 (n + 1))))
          | none => none
        | _ => none
      | none => none
    | .slice t x lo hi none => match T t, evO s x with
      | some i, some (.one c) => match i.k with
        | .slice e => match T e with
          | some ie => match fzRows c with
            | some rows => match bnd s 0 lo, bnd s rows.length hi with
              | some l, some h => some ((0 ≤ l ∧ l ≤ h ∧ h ≤ rows.length) ∧ ∀ r ∈ rows, r.length = ie.size, s.put o.dst (.one (fzMk c ((rows.take h.toNat).drop l.toNat))))
              | _, _ => none
            | none => match c with
              | .ref id off len => match look s.st id, bnd s 0 lo, bnd s len hi with
                | some (.arr rows), some l, some h => some ((0 ≤ l ∧ l ≤ h ∧ h ≤ len) ∧ ∀ r ∈ rows, r.length = ie.size, s.put o.dst (.one (.ref id (off + l.toNat) (h.toNat - l.toNat))))
                | _, _, _ => none
              | _ => none
          | none => none
        | _ => none
      | _, _ => none
    | .binOp op t x y yt => (stepB P T s op t x y yt).map fun q => (q.1, s.put o.dst q.2)
    | .load t x => (stepV T s (.load t x)).map fun q => ((fixV h q).1, s.put o.dst (fixV h q).2)
    | op => (stepV T s op).map fun q => (q.1, s.put o.dst q.2)

theorem pj {α β : Type} {a c : α} {b d : β} (h : some (a, b) = some (c, d)) : a = c ∧ b = d := Prod.mk.inj (Option.some.inj h)

theorem getD_some {α : Type} {l : List α} {i : Nat} {d : α} (h : i < l.length) : l[i]? = some (l.getD i d) := by simp [List.getElem?_eq_getElem h]

theorem stepIx_ok {h : Option Hint} {s s' : S} {o : Oper} {p : Prop} {K : S → Prop} {t : TypeId} {x y : Operand} (hT : TOk P T) (ho : o.op = .indexAddr t x y) (hd : Oper.dok o s.m = true)
    (hs : stepIx T h s o t x y = some (p, s')) (hp : p) (k : K s') : OpOK P o s K := by
  unfold stepIx at hs
  split at hs
  · rename_i i c kk n ht hx hy
    split at hs
    · rename_i e hk
      split at hs
      · rename_i ie he
        split at hs
        · rename_i rows row hc _
          obtain ⟨rfl, rfl⟩ := pj hs
          exact r_indexF hT ho hd ht hk he hx hc hy hp.1 hp.2.1 hp.2.2 k
        · cases hs
        · split at hs
          · rename_i id off len
            split at hs
            · rename_i rows row hlk _
              obtain ⟨rfl, rfl⟩ := pj hs
              exact r_indexR hT ho hd ht hk he hx hy hlk hp.1 hp.2.1 hp.2.2 k
            · rename_i rows hlk _
              obtain ⟨rfl, rfl⟩ := pj hs
              exact r_indexR hT ho hd ht hk he hx hy hlk hp.1 (getD_some hp.2.1) hp.2.2 k
            · cases hs
          · cases hs
      · cases hs
    · rename_i m e hk
      split at hs
      · rename_i ie he hc
        obtain ⟨rfl, rfl⟩ := pj hs
        exact r_indexA hT ho hd ht hk he hx hy hc hp k
      · cases hs
    · cases hs
  · cases hs

theorem stepAp_ok {s s' : S} {o : Oper} {p : Prop} {K : S → Prop} {args : Array Operand} {ats : Array TypeId} (hT : TOk P T) (ho : o.op = .call { callee := .builtin .append, args := args, argTypes := ats }) (hd : Oper.dok o s.m = true)
    (hs : stepAp T s o args.toList ats.toList = some (p, s')) (hp : p) (k : K s') : OpOK P o s K := by
  unfold stepAp at hs
  split at hs
  · rename_i x y t t2 hargs hats
    obtain rfl : args = #[x, y] := by cases args; simpa using hargs
    obtain rfl : ats = #[t, t2] := by cases ats; simpa using hats
    split at hs
    · rename_i i i2 c d ht ht2 hx hy
      split at hs
      · rename_i e e2 hk hk2
        split at hs
        · rename_i ie rows st rows2 he hb hr
          split at hs
          · rename_i hee
            subst hee
            obtain ⟨rfl, rfl⟩ := pj hs
            exact r_append hT ho hd ht hk he ht2 hk2 hx hy hb (fun id off len hc => by subst hc; exact hp.1) hr hp.2.1 hp.2.2.1 hp.2.2.2.1 hp.2.2.2.2 k
          · cases hs
        · cases hs
      · cases hs
    · cases hs
  · cases hs

theorem stepApF_ok {s s' : S} {o : Oper} {p : Prop} {K : S → Prop} {args : Array Operand} {ats : Array TypeId} {d : Nat} {r : MV} (hT : TOk P T) (ho : o.op = .call { callee := .builtin .append, args := args, argTypes := ats }) (hd : Oper.dok o s.m = true) (hdst : o.dst = some d)
    (hs : stepApF T s d r args.toList ats.toList = some (p, s')) (hp : p) (k : K s') : OpOK P o s K := by
  unfold stepApF at hs
  split at hs
  · rename_i x y t t2 hargs hats
    obtain rfl : args = #[x, y] := by cases args; simpa using hargs
    obtain rfl : ats = #[t, t2] := by cases ats; simpa using hats
    split at hs
    · rename_i i i2 c ht ht2 hx hy
      split at hs
      · rename_i e e2 hk hk2
        split at hs
        · rename_i ie rows2 he hr
          split at hs
          · rename_i hee
            subst hee
            obtain ⟨rfl, rfl⟩ := pj hs
            obtain ⟨h1, h2, h3, h4, rfl⟩ := hp
            exact r_appendF hT ho hd hdst ht hk he ht2 hk2 hx hy hr h1 h2 h3 h4 (by rw [hdst]; exact k)
          · cases hs
        · cases hs
      · cases hs
    · cases hs
  · cases hs

theorem stepCp_ok {s s' : S} {o : Oper} {p : Prop} {K : S → Prop} {args : Array Operand} {ats : Array TypeId} (hT : TOk P T) (ho : o.op = .call { callee := .builtin .copy, args := args, argTypes := ats }) (hd : Oper.dok o s.m = true)
    (hs : stepCp T s o args.toList ats.toList = some (p, s')) (hp : p) (k : K s') : OpOK P o s K := by
  unfold stepCp at hs
  split at hs
  · rename_i x y t t2 hargs hats
    obtain rfl : args = #[x, y] := by cases args; simpa using hargs
    obtain rfl : ats = #[t, t2] := by cases ats; simpa using hats
    split at hs
    · rename_i i id n c ht hx hy
      split at hs
      · rename_i e hk
        split at hs
        · rename_i ie rows rows2 he hlk hr
          obtain ⟨rfl, rfl⟩ := pj hs
          exact r_copy hT ho hd ht hk he hx hy hlk hp.1 hr hp.2.1 hp.2.2.1 hp.2.2.2.1 hp.2.2.2.2 k
        · cases hs
      · cases hs
    · cases hs
  · cases hs

theorem stepB_ok {s : S} {o : Oper} {p : Prop} {v : MV} {K : S → Prop} {op : BinOp} {t yt : TypeId} {x y : Operand} (hT : TOk P T) (ho : o.op = .binOp op t x y yt) (hd : Oper.dok o s.m = true)
    (hs : stepB P T s op t x y yt = some (p, v)) (hp : p) (k : K (s.put o.dst v)) : OpOK P o s K := by
  unfold stepB at hs
  split at hs
  · rename_i xs ys hx hy
    split at hs
    · rename_i i ht
      split at hs
      · rename_i l b hk hb
        split at hs
        · obtain ⟨rfl, rfl⟩ := pj hs
          exact r_eqs hT ho hd ht hk hx hy hb hp.h (.inl ⟨rfl, rfl⟩) k
        · obtain ⟨rfl, rfl⟩ := pj hs
          exact r_eqs hT ho hd ht hk hx hy hb hp.h (.inr ⟨rfl, rfl⟩) k
        · cases hs
      · cases hs
    · cases hs
  · rw [← ho] at hs
    exact stepV_ok hT hd hs hp k

theorem evO_int {s : S} {n : Int} : evO s (.const (.int .i64 n)) = some (.one (.sc (.int .i64 n))) := rfl
theorem stepF_ok {h : Option Hint} {s s' : S} {o : Oper} {p : Prop} {K : S → Prop} (hT : TOk P T) (hs : stepF P T h s o = some (p, s')) (hp : p) (k : K s') : OpOK P o s K := by
  unfold stepF at hs
  split at hs
  · cases hs
  · rename_i hd
    have hV : ∀ {op : Op}, o.op = op → (stepV T s op).map (fun q => (q.1, s.put o.dst q.2)) = some (p, s') → OpOK P o s K := fun {op} ho hv => by
      obtain ⟨q, hq, he⟩ := Option.map_eq_some_iff.1 hv
      obtain ⟨rfl, rfl⟩ := Prod.mk.inj he
      rw [← ho] at hq
      exact stepV_ok hT hd hq hp k
    split at hs
    · rename_i t x y ho
      exact stepIx_ok hT ho hd hs hp k
    · rename_i c ho
      obtain ⟨cal, args, ats⟩ := c
      simp only at hs
      split at hs
      · rename_i f
        split at hs
        · rename_i p' ds r hl
          obtain ⟨rfl, rfl⟩ := pj hs
          exact r_call ho hd hl hp.1 hp.2 k
        · rename_i p' ds g hl
          obtain ⟨rfl, rfl⟩ := pj hs
          exact r_call ho hd hl hp.1 hp.2 k
        · cases hs
      · split at hs
        · rename_i f p' ds r hf hl
          obtain ⟨rfl, rfl⟩ := pj hs
          exact r_callV ho (calleeF_ok hf) hd hl hp.1 hp.2 k
        · rename_i f p' ds g hf hl
          obtain ⟨rfl, rfl⟩ := pj hs
          exact r_callV ho (calleeF_ok hf) hd hl hp.1 hp.2 k
        · cases hs
      · split at hs
        · rename_i hdst
          exact stepApF_ok hT ho hd hdst hs hp k
        · exact stepAp_ok hT ho hd hs hp k
      · exact stepCp_ok hT ho hd hs hp k
      · exact hV ho hs
    · rename_i f ho
      obtain ⟨rfl, rfl⟩ := pj hs
      exact r_makeFunc ho hd k
    · rename_i t x ho
      split at hs
      · rename_i cs hcs
        obtain ⟨rfl, rfl⟩ := pj hs
        obtain ⟨v, hv, hm⟩ := Option.bind_eq_some_iff.1 hcs
        exact r_box ho hd hv hm k
      · cases hs
    · rename_i t ho
      split at hs
      · rename_i i ht
        obtain ⟨rfl, rfl⟩ := pj hs
        exact r_alloc hT ho hd ht k
      · cases hs
    · rename_i t x y ho
      split at hs
      · rename_i i id r f cs hdst ht hx hcs
        split at hs
        · rename_i ob hlk
          obtain ⟨q, hq, he⟩ := Option.map_eq_some_iff.1 hs
          obtain ⟨rfl, rfl⟩ := Prod.mk.inj he
          obtain ⟨v, hv, hm⟩ := Option.bind_eq_some_iff.1 hcs
          exact r_store hT ho hdst ht hx hv hm hlk hq hp.1 hp.2 k
        · cases hs
      · cases hs
    · rename_i t parts ho
      split at hs
      · rename_i i ht
        split at hs
        · rename_i l hk
          obtain ⟨q, hq, he⟩ := Option.map_eq_some_iff.1 hs
          obtain ⟨rfl, rfl⟩ := Prod.mk.inj he
          exact r_build hT ho hd ht hk hq hp.1 hp.2 k
        · rename_i m e hk
          split at hs
          · rename_i ie he'
            obtain ⟨q, hq, he⟩ := Option.map_eq_some_iff.1 hs
            obtain ⟨rfl, rfl⟩ := Prod.mk.inj he
            exact r_buildA hT ho hd ht hk he' hq hp k
          · cases hs
        · cases hs
      · cases hs
    · rename_i t x y ho
      split at hs
      · rename_i i kk n ht hx
        split at hs
        · rename_i e hk
          split at hs
          · rename_i ie he
            split at hs
            · rename_i hxy
              subst hxy
              obtain ⟨rfl, rfl⟩ := pj hs
              exact new_nfH (fun K k => r_make hT ho hd ht hk he hx hp k) k
            · cases hs
          · cases hs
        · cases hs
      · cases hs
    · rename_i t m m' ho
      split at hs
      · rename_i i ht
        split at hs
        · rename_i e hk
          split at hs
          · rename_i ie he
            split at hs
            · rename_i hxy
              subst hxy
              obtain ⟨rfl, rfl⟩ := pj hs
              exact new_nfH (fun K k => r_make hT ho hd ht hk he (evO_int (s := s)) hp k) k
            · cases hs
          · cases hs
        · cases hs
      · cases hs
    · rename_i t len parts ho
      split at hs
      · rename_i i ht
        split at hs
        · rename_i e hk
          split at hs
          · rename_i ie he
            split at hs
            · split at hs
              · rename_i hemp
                obtain ⟨rfl, rfl⟩ := pj hs
                obtain rfl : parts = #[] := by cases parts; simpa using hemp
                exact r_buildSlice0 hT ho hd ht hk he k
              · cases hs
            · split at hs
              · rename_i d hdst
                obtain ⟨q, hq, he'⟩ := Option.map_eq_some_iff.1 hs
                obtain ⟨rfl, rfl⟩ := Prod.mk.inj he'
                exact r_buildSliceF hT ho hd hdst ht hk he ⟨Nat.succ_pos _, hp.2.1⟩ hq hp.1 hp.2.2.1 hp.2.2.2 (by rw [hdst]; exact k)
              · obtain ⟨q, hq, he'⟩ := Option.map_eq_some_iff.1 hs
                obtain ⟨rfl, rfl⟩ := Prod.mk.inj he'
                exact r_buildSlice hT ho hd ht hk he ⟨Nat.succ_pos _, hp.2.1⟩ hq hp.1 hp.2.2.1 hp.2.2.2 k
          · cases hs
        · cases hs
      · cases hs
    · rename_i t x lo hi ho
      split at hs
      · rename_i i c ht hx
        split at hs
        · rename_i e hk
          split at hs
          · rename_i ie he
            split at hs
            · rename_i rows hc
              split at hs
              · rename_i l h hl hh
                obtain ⟨rfl, rfl⟩ := pj hs
                exact r_sliceF hT ho hd ht hk he hx hc hl hh hp.1 hp.2 k
              · cases hs
            · split at hs
              · rename_i id off len _
                split at hs
                · rename_i rows l h hlk hl hh
                  obtain ⟨rfl, rfl⟩ := pj hs
                  exact r_sliceR hT ho hd ht hk he hx hlk hl hh hp.1 hp.2 k
                · cases hs
              · cases hs
          · cases hs
        · cases hs
      · cases hs
    · rename_i op t x y yt ho
      obtain ⟨q, hq, he⟩ := Option.map_eq_some_iff.1 hs
      obtain ⟨rfl, rfl⟩ := Prod.mk.inj he
      exact stepB_ok hT ho hd hq hp k
    · rename_i t x ho
      obtain ⟨q, hq, he⟩ := Option.map_eq_some_iff.1 hs
      obtain ⟨rfl, rfl⟩ := Prod.mk.inj he
      obtain ⟨hp1, hp2⟩ := fixV_ok hp
      rw [← ho] at hq
      rcases hp2 with hp2 | hp2
      · rw [hp2] at k
        exact stepV_ok hT hd hq hp1 k
      · rw [hp2] at k
        exact put_nf (fun K k => stepV_ok hT hd hq hp1 k) k
    · exact hV rfl hs

end Mg
