/- Parts of the abstract state logic and of the walks, one behind the other: Mg15, Mg37. No condition. -/
import Derived.Test.YtedgmfmhilihoaaGreatP5
import Derived.Test.YtedgmfmhilihoaaGreatP6
import Derived.Test.YtedgmfmhilihoaaGreatP4
/- The abstract state logic, part 15: every operation's step, and regions, reckoned. No condition. -/
namespace Mg
open Go Go.RowKit
set_option linter.unusedVariables false

variable {P : Program} {T : Tab}

/-- A made list, as a hint says: 'nothing' in it read as an empty list. -/
def nfH : Option Hint → List (List MC) → List (List MC)
  | some (.row _), rows => nfR rows
  | _, rows => rows
theorem new_nfH {o : Oper} {s : S} {K : S → Prop} {h : Option Hint} {rows : List (List MC)} {v : MV} (hop : ∀ K : S → Prop, K ((s.new (.arr rows)).put o.dst v) → OpOK P o s K) (k : K ((s.new (.arr (nfH h rows))).put o.dst v)) : OpOK P o s K := by
  unfold nfH at k
  split at k
  · intro w0 wr A a w Q K' hg hrel hK
    refine hop (fun s1 => s1 = (s.new (.arr rows)).put o.dst v) rfl w0 wr A a w Q K' hg hrel fun s' a' w' hrel' hs' => ?_
    subst hs'
    obtain ⟨L, F, h⟩ := hrel'
    have hlk : look ((s.new (.arr rows)).put o.dst v).st s.n = some (.arr rows) := by
      cases o.dst <;> simp [S.put, S.new, look_cons]
    refine hK _ a' w' ⟨L, F, Lk.rl ⟨?_, ?_, ?_, fun t => ?_⟩ (h.nf hlk)⟩ k
    · cases o.dst <;> rfl
    · cases o.dst <;> rfl
    · cases o.dst <;> simp [S.put, S.new, S.set, upd]
    · cases o.dst <;> rfl
  · exact hop K k

def stepIx (T : Tab) (h : Option Hint) (s : S) (o : Oper) (t : TypeId) (x y : Operand) : Option (Prop × S) :=
  match T t, evO s x, evO s y with
  | some i, some (.one c), some (.one (.sc (.int k n))) => match i.k with
    | .slice e => match T e with
      | some ie => match fzRows c, rowH h n with
        | some rows, some (.row row) => some (0 ≤ n ∧ rows[n.toNat]? = some row ∧ row.length = ie.size, s.put o.dst (.one (fzPtr c row)))
        | some _, _ => none
        | none, h => match c with
          | .ref id off len => match look s.st id, h with
            | some (.arr rows), some (.row row) => some ((0 ≤ n ∧ n < len) ∧ rows[off + n.toNat]? = some row ∧ row.length = ie.size, s.put o.dst (.one (.ptr id (off + n.toNat) 0)))
            | some (.arr rows), _ => some ((0 ≤ n ∧ n < len) ∧ off + n.toNat < rows.length ∧ (rows.getD (off + n.toNat) []).length = ie.size, s.put o.dst (.one (.ptr id (off + n.toNat) 0)))
            | _, _ => none
          | _ => none
      | none => none
    | .arr m e => match T e, okP (look s.st) c with
      | some ie, true => some (0 ≤ n ∧ n < m, s.put o.dst (.one (ptrAdd c (n.toNat * ie.size))))
      | _, _ => none
    | _ => none
  | _, _, _ => none

def stepAp (T : Tab) (s : S) (o : Oper) : List Operand → List TypeId → Option (Prop × S)
  | [x, y], [t, t2] => match T t, T t2, evO s x, evO s y with
    | some i, some i2, some (.one c), some (.one d) => match i.k, i2.k with
      | .slice e, .slice e2 => match T e, base? s c, rowsOf s d with
        | some ie, some (rows, st), some rows2 => if e = e2 then
            some ((match c with | .ref _ _ len => len = rows.length | _ => True) ∧ (∀ r ∈ rows, r.length = ie.size) ∧ (∀ r ∈ rows2, r.length = ie.size) ∧ (rows.length + rows2.length) * ie.bytes ≤ 140737488355328 ∧ rows.length + rows2.length ≤ 140737488355328,
              (s.app (rows ++ rows2) st).put o.dst (.one (.ref s.n 0 (rows.length + rows2.length)))) else none
        | _, _, _ => none
      | _, _ => none
    | _, _, _, _ => none
  | _, _ => none

/-- 'append' to nothing, with a hint: the list is written no more. -/
def stepApF (T : Tab) (s : S) (d : Nat) (r : MV) : List Operand → List TypeId → Option (Prop × S)
  | [x, y], [t, t2] => match T t, T t2, evO s x, evO s y with
    | some i, some i2, some (.one .nil), some (.one c) => match i.k, i2.k with
      | .slice e, .slice e2 => match T e, rowsOf s c with
        | some ie, some rows2 => if e = e2 then
            some ((∀ r ∈ rows2, r.length = ie.size) ∧ rows2.length * ie.bytes ≤ 140737488355328 ∧ rows2.length ≤ 140737488355328 ∧ AllF rows2 ∧ r = .one (.fz rows2), s.put (some d) r) else none
        | _, _ => none
      | _, _ => none
    | _, _, _, _ => none
  | _, _ => none

/-- 'copy' of as many rows as there are. -/
def stepCp (T : Tab) (s : S) (o : Oper) : List Operand → List TypeId → Option (Prop × S)
  | [x, y], [t, _] => match T t, evO s x, evO s y with
    | some i, some (.one (.ref id 0 n)), some (.one c) => match i.k with
      | .slice e => match T e, look s.st id, rowsOf s c with
        | some ie, some (.arr rows), some rows2 =>
            some (n = rows.length ∧ rows2.length = rows.length ∧ 0 < rows.length ∧ (∀ r ∈ rows, r.length = ie.size) ∧ (∀ r ∈ rows2, r.length = ie.size),
              (s.set id (.arr rows2)).put o.dst (.one (.sc (.int .i64 rows2.length))))
        | _, _, _ => none
      | _ => none
    | _, _, _ => none
  | _, _ => none

def stepB (P : Program) (T : Tab) (s : S) (op : BinOp) (t : TypeId) (x y : Operand) (yt : TypeId) : Option (Prop × MV) :=
  match evO s x, evO s y with
  | some (.agg xs), some (.agg ys) => match T t with
    | some i => match i.k, eqT T 8 t xs ys with
      | .struct _, some b => match op with
        | .eql => some (Chk (eqOk P 8 t && !P.eqGuardType P.depth t), .one (.sc (.bool b)))
        | .neq => some (Chk (eqOk P 8 t && !P.eqGuardType P.depth t), .one (.sc (.bool !b)))
        | _ => none
      | _, _ => none
    | none => none
  | _, _ => stepV T s (.binOp op t x y yt)

/-- 'Nothing' in a value, read as an empty list. -/
def nfV : MV → MV
  | .one c => .one c.nf
  | .agg cs => .agg (cs.map MC.nf)
  | v => v
theorem RV.nf {st : Sto} {L : Lay} {w : World} {F : FF} {x : MV} {v : Value} (h : RV st L w F x v) : RV st L w F (nfV x) v := by
  cases x with
  | one c => exact RC.nf h
  | agg cs =>
    obtain ⟨arr, rfl, h1, h2⟩ := h
    refine ⟨arr, rfl, by simpa using h1, fun j c hj => ?_⟩
    rw [List.getElem?_map] at hj
    obtain ⟨d, hd, rfl⟩ := Option.map_eq_some_iff.1 hj
    obtain ⟨u, hu, hr⟩ := h2 j d hd
    exact ⟨u, hu, hr.nf⟩
  | _ => exact h
theorem MV.nf_bd {x : MV} {n : Nat} (h : x.bd n) : (nfV x).bd n := by
  cases x with
  | one c => exact MC.nf_bd h
  | agg cs =>
    intro c hc
    obtain ⟨d, hd, rfl⟩ := List.mem_map.1 hc
    exact MC.nf_bd (h d hd)
  | _ => exact h
theorem put_nf {o : Oper} {s : S} {K : S → Prop} {v : MV} (hop : ∀ K : S → Prop, K (s.put o.dst v) → OpOK P o s K) (k : K (s.put o.dst (nfV v))) : OpOK P o s K := by
  intro w0 wr A a w Q K' hg hrel hK
  refine hop (fun s1 => s1 = s.put o.dst v) rfl w0 wr A a w Q K' hg hrel fun s' a' w' hrel' hs' => ?_
  subst hs'
  obtain ⟨L, F, h⟩ := hrel'
  refine hK _ a' w' ⟨L, F, ?_⟩ k
  cases hd : o.dst with
  | none => rw [hd] at h; exact h
  | some d =>
    rw [hd] at h
    refine ⟨h.os, h.tape, h.output, h.size, h.keep, h.kc, h.pin, h.fa, h.fn, h.fsz, h.ob, h.own, h.inj, h.sz, fun t u hu => ?_, h.bst, fun t u hu => ?_, h.df⟩
    · simp only [S.put, look_cons] at hu
      by_cases e : t = d
      · rw [if_pos e] at hu
        obtain rfl := Option.some.inj hu
        exact (h.env t v (by simp only [S.put, look_cons]; rw [if_pos e])).nf
      · rw [if_neg e] at hu
        exact h.env t u (by simp only [S.put, look_cons]; rw [if_neg e]; exact hu)
    · simp only [S.put, look_cons] at hu
      by_cases e : t = d
      · rw [if_pos e] at hu
        obtain rfl := Option.some.inj hu
        exact MV.nf_bd (h.ben t v (by simp only [S.put, look_cons]; rw [if_pos e]))
      · rw [if_neg e] at hu
        exact h.ben t u (by simp only [S.put, look_cons]; rw [if_neg e]; exact hu)
/-- A value that was read, as a hint says it. -/
def fixV : Option Hint → Prop × MV → Prop × MV
  | some (.res r), q => (q.1 ∧ q.2 = r, r)
  | some (.resf g), q => (q.1 ∧ q.2 = g [q.2], g [q.2])
  | some (.row _), q => (q.1, nfV q.2)
  | _, q => q
theorem fixV_ok {h : Option Hint} {q : Prop × MV} (hp : (fixV h q).1) : q.1 ∧ ((fixV h q).2 = q.2 ∨ (fixV h q).2 = nfV q.2) := by
  unfold fixV at hp ⊢
  split at hp
  · exact ⟨hp.1, .inl hp.2.symm⟩
  · exact ⟨hp.1, .inl hp.2.symm⟩
  · exact ⟨hp, .inr rfl⟩
  · exact ⟨hp, .inl rfl⟩

/-- One operation. -/
def stepF (P : Program) (T : Tab) (h : Option Hint) (s : S) (o : Oper) : Option (Prop × S) :=
  match Oper.dok o s.m with
  | false => none
  | true => match o.op with
    | .indexAddr t x y => stepIx T h s o t x y
    | .call c => match c.callee with
      | .value (.func f) => match lend s c.args.toList, h with
        | some (p, ds), some (.res r) => some (p ∧ Pure P false f ds r, (adV s r).2.put o.dst (adV s r).1)
        | some (p, ds), some (.resf g) => some (p ∧ Pure P false f ds (g ds), (adV s (g ds)).2.put o.dst (adV s (g ds)).1)
        | _, _ => none
      | .value (.tmp t) => match calleeF s t, lend s c.args.toList, h with
        | some f, some (p, ds), some (.res r) => some (p ∧ Pure P false f ds r, (adV s r).2.put o.dst (adV s r).1)
        | some f, some (p, ds), some (.resf g) => some (p ∧ Pure P false f ds (g ds), (adV s (g ds)).2.put o.dst (adV s (g ds)).1)
        | _, _, _ => none
      | .builtin .append => match h, o.dst with
        | some (.res r), some d => stepApF T s d r c.args.toList c.argTypes.toList
        | _, _ => stepAp T s o c.args.toList c.argTypes.toList
      | .builtin .copy => stepCp T s o c.args.toList c.argTypes.toList
      | _ => (stepV T s (.call c)).map fun q => (q.1, s.put o.dst q.2)
    | .makeFunc f ⟨[]⟩ ⟨[]⟩ => some (True, s.put o.dst (.one (.sc (.func f #[] #[]))))
    | .box t x => match (evO s x).bind mvCells with
      | some cs => some (True, (s.new (.box cs)).put o.dst (.one (.ptr s.n 0 0)))
      | none => none
    | .alloc t => match T t with
      | some i => some (True, (s.new (.box (i.z.map ZC.mc))).put o.dst (.one (.ptr s.n 0 0)))
      | none => none
    | .store t x y => match o.dst, T t, evO s x, (evO s y).bind mvCells with
      | none, some i, some (.one (.ptr id r f)), some cs => match look s.st id with
        | some ob => (obPut ob r f cs).map fun q => (q.1 ∧ cs.length = i.size, s.set id q.2)
        | none => none
      | _, _, _, _ => none
    | .build t parts => match T t with
      | some i => match i.k with
        | .struct l => (fillM s T (fun j => (l[j]?).bind fun q => (T q.2).map fun fi => (q.1, fi.size)) (i.z.map ZC.mc) parts.toList).map fun q => (q.1 ∧ (∀ g ∈ l, (T g.2).isSome = true), s.put o.dst (.agg q.2))
        | .arr m e => match T e with
          | some ie => (fillM s T (fun j => some (j * ie.size, ie.size)) (i.z.map ZC.mc) parts.toList).map fun q => (q.1, s.put o.dst (.agg q.2))
          | none => none
        | _ => none
      | none => none
    | .makeSlice t (.tmp x) (.tmp y) => match T t, evO s (.tmp x) with
      | some i, some (.one (.sc (.int k n))) => match i.k with
        | .slice e => match T e with
          | some ie => if x = y then some (0 ≤ n ∧ n ≤ 281474976710656 ∧ ie.bytes * n ≤ 281474976710656, (s.new (.arr (nfH h (List.replicate n.toNat (ie.z.map ZC.mc))))).put o.dst (.one (.ref s.n 0 n.toNat))) else none
          | none => none
        | _ => none
      | _, _ => none
    | .makeSlice t (.const (.int .i64 m)) (.const (.int .i64 m')) => match T t with
      | some i => match i.k with
        | .slice e => match T e with
          | some ie => if m = m' then some (0 ≤ m ∧ m ≤ 281474976710656 ∧ ie.bytes * m ≤ 281474976710656, (s.new (.arr (nfH h (List.replicate m.toNat (ie.z.map ZC.mc))))).put o.dst (.one (.ref s.n 0 m.toNat))) else none
          | none => none
        | _ => none
      | _ => none
    | .buildSlice t len parts => match T t with
      | some i => match i.k with
        | .slice e => match T e with
          | some ie => match len with
            | 0 => if parts.toList.isEmpty = true then some (True, s.put o.dst (.one .nil)) else none
            | n + 1 => match h, o.dst with
              | some (.row _), some d => (fillM s T (fun j => some (j * ie.size, ie.size)) (zrep (ie.z.map ZC.mc) (n + 1)) parts.toList).map fun q =>
                (q.1 ∧ (0 < ie.size ∧ (n + 1) * ie.size ≤ 16777216) ∧ q.2.length = (n + 1) * ie.size ∧ (∀ x ∈ q.2, x.nf.frz = true), s.put (some d) (.one (.fz (nfR (chunk (n + 1) ie.size q.2)))))
              | _, _ => (fillM s T (fun j => some (j * ie.size, ie.size)) (zrep (ie.z.map ZC.mc) (n + 1)) parts.toList).map fun q =>
                (q.1 ∧ (0 < ie.size ∧ (n + 1) * ie.size ≤ 16777216) ∧ q.2.length = (n + 1) * ie.size ∧ (∀ x ∈ q.2, x.bd s.n), (s.new (.arr (chunk (n + 1) ie.size q.2))).put o.dst (.one (.ref s.n 0 (n + 1))))
          | none => none
        | _ => none
      | none => none
    | .slice t x lo hi none => match T t, evO s x with
      | some i, some (.one c) => match i.k with
        | .slice e => match T e with
          | some ie => match fzRows c with
            | some rows => match bnd s 0 lo, bnd s rows.length hi with
              | some l, some h => some ((0 ≤ l ∧ l ≤ h ∧ h ≤ rows.length) ∧ ∀ r ∈ rows, r.length = ie.size, s.put o.dst (.one (fzMk c ((rows.take h.toNat).drop l.toNat))))
              | _, _ => none
            | none => match c with
              | .ref id off len => match look s.st id, bnd s 0 lo, bnd s len hi with
                | some (.arr rows), some l, some h => some ((0 ≤ l ∧ l ≤ h ∧ h ≤ len) ∧ ∀ r ∈ rows, r.length = ie.size, s.put o.dst (.one (.ref id (off + l.toNat) (h.toNat - l.toNat))))
                | _, _, _ => none
              | _ => none
          | none => none
        | _ => none
      | _, _ => none
    | .binOp op t x y yt => (stepB P T s op t x y yt).map fun q => (q.1, s.put o.dst q.2)
    | .load t x => (stepV T s (.load t x)).map fun q => ((fixV h q).1, s.put o.dst (fixV h q).2)
    | op => (stepV T s op).map fun q => (q.1, s.put o.dst q.2)

theorem pj {α β : Type} {a c : α} {b d : β} (h : some (a, b) = some (c, d)) : a = c ∧ b = d := Prod.mk.inj (Option.some.inj h)

theorem getD_some {α : Type} {l : List α} {i : Nat} {d : α} (h : i < l.length) : l[i]? = some (l.getD i d) := by simp [List.getElem?_eq_getElem h]

theorem stepIx_ok {h : Option Hint} {s s' : S} {o : Oper} {p : Prop} {K : S → Prop} {t : TypeId} {x y : Operand} (hT : TOk P T) (ho : o.op = .indexAddr t x y) (hd : Oper.dok o s.m = true)
    (hs : stepIx T h s o t x y = some (p, s')) (hp : p) (k : K s') : OpOK P o s K := by
  unfold stepIx at hs
  split at hs
  · rename_i i c kk n ht hx hy
    split at hs
    · rename_i e hk
      split at hs
      · rename_i ie he
        split at hs
        · rename_i rows row hc _
          obtain ⟨rfl, rfl⟩ := pj hs
          exact r_indexF hT ho hd ht hk he hx hc hy hp.1 hp.2.1 hp.2.2 k
        · cases hs
        · split at hs
          · rename_i id off len
            split at hs
            · rename_i rows row hlk _
              obtain ⟨rfl, rfl⟩ := pj hs
              exact r_indexR hT ho hd ht hk he hx hy hlk hp.1 hp.2.1 hp.2.2 k
            · rename_i rows hlk _
              obtain ⟨rfl, rfl⟩ := pj hs
              exact r_indexR hT ho hd ht hk he hx hy hlk hp.1 (getD_some hp.2.1) hp.2.2 k
            · cases hs
          · cases hs
      · cases hs
    · rename_i m e hk
      split at hs
      · rename_i ie he hc
        obtain ⟨rfl, rfl⟩ := pj hs
        exact r_indexA hT ho hd ht hk he hx hy hc hp k
      · cases hs
    · cases hs
  · cases hs

theorem stepAp_ok {s s' : S} {o : Oper} {p : Prop} {K : S → Prop} {args : Array Operand} {ats : Array TypeId} (hT : TOk P T) (ho : o.op = .call { callee := .builtin .append, args := args, argTypes := ats }) (hd : Oper.dok o s.m = true)
    (hs : stepAp T s o args.toList ats.toList = some (p, s')) (hp : p) (k : K s') : OpOK P o s K := by
  unfold stepAp at hs
  split at hs
  · rename_i x y t t2 hargs hats
    obtain rfl : args = #[x, y] := by cases args; simpa using hargs
    obtain rfl : ats = #[t, t2] := by cases ats; simpa using hats
    split at hs
    · rename_i i i2 c d ht ht2 hx hy
      split at hs
      · rename_i e e2 hk hk2
        split at hs
        · rename_i ie rows st rows2 he hb hr
          split at hs
          · rename_i hee
            subst hee
            obtain ⟨rfl, rfl⟩ := pj hs
            exact r_append hT ho hd ht hk he ht2 hk2 hx hy hb (fun id off len hc => by subst hc; exact hp.1) hr hp.2.1 hp.2.2.1 hp.2.2.2.1 hp.2.2.2.2 k
          · cases hs
        · cases hs
      · cases hs
    · cases hs
  · cases hs

theorem stepApF_ok {s s' : S} {o : Oper} {p : Prop} {K : S → Prop} {args : Array Operand} {ats : Array TypeId} {d : Nat} {r : MV} (hT : TOk P T) (ho : o.op = .call { callee := .builtin .append, args := args, argTypes := ats }) (hd : Oper.dok o s.m = true) (hdst : o.dst = some d)
    (hs : stepApF T s d r args.toList ats.toList = some (p, s')) (hp : p) (k : K s') : OpOK P o s K := by
  unfold stepApF at hs
  split at hs
  · rename_i x y t t2 hargs hats
    obtain rfl : args = #[x, y] := by cases args; simpa using hargs
    obtain rfl : ats = #[t, t2] := by cases ats; simpa using hats
    split at hs
    · rename_i i i2 c ht ht2 hx hy
      split at hs
      · rename_i e e2 hk hk2
        split at hs
        · rename_i ie rows2 he hr
          split at hs
          · rename_i hee
            subst hee
            obtain ⟨rfl, rfl⟩ := pj hs
            obtain ⟨h1, h2, h3, h4, rfl⟩ := hp
            exact r_appendF hT ho hd hdst ht hk he ht2 hk2 hx hy hr h1 h2 h3 h4 (by rw [hdst]; exact k)
          · cases hs
        · cases hs
      · cases hs
    · cases hs
  · cases hs

theorem stepCp_ok {s s' : S} {o : Oper} {p : Prop} {K : S → Prop} {args : Array Operand} {ats : Array TypeId} (hT : TOk P T) (ho : o.op = .call { callee := .builtin .copy, args := args, argTypes := ats }) (hd : Oper.dok o s.m = true)
    (hs : stepCp T s o args.toList ats.toList = some (p, s')) (hp : p) (k : K s') : OpOK P o s K := by
  unfold stepCp at hs
  split at hs
  · rename_i x y t t2 hargs hats
    obtain rfl : args = #[x, y] := by cases args; simpa using hargs
    obtain rfl : ats = #[t, t2] := by cases ats; simpa using hats
    split at hs
    · rename_i i id n c ht hx hy
      split at hs
      · rename_i e hk
        split at hs
        · rename_i ie rows rows2 he hlk hr
          obtain ⟨rfl, rfl⟩ := pj hs
          exact r_copy hT ho hd ht hk he hx hy hlk hp.1 hr hp.2.1 hp.2.2.1 hp.2.2.2.1 hp.2.2.2.2 k
        · cases hs
      · cases hs
    · cases hs
  · cases hs

theorem stepB_ok {s : S} {o : Oper} {p : Prop} {v : MV} {K : S → Prop} {op : BinOp} {t yt : TypeId} {x y : Operand} (hT : TOk P T) (ho : o.op = .binOp op t x y yt) (hd : Oper.dok o s.m = true)
    (hs : stepB P T s op t x y yt = some (p, v)) (hp : p) (k : K (s.put o.dst v)) : OpOK P o s K := by
  unfold stepB at hs
  split at hs
  · rename_i xs ys hx hy
    split at hs
    · rename_i i ht
      split at hs
      · rename_i l b hk hb
        split at hs
        · obtain ⟨rfl, rfl⟩ := pj hs
          exact r_eqs hT ho hd ht hk hx hy hb hp.h (.inl ⟨rfl, rfl⟩) k
        · obtain ⟨rfl, rfl⟩ := pj hs
          exact r_eqs hT ho hd ht hk hx hy hb hp.h (.inr ⟨rfl, rfl⟩) k
        · cases hs
      · cases hs
    · cases hs
  · rw [← ho] at hs
    exact stepV_ok hT hd hs hp k

theorem evO_int {s : S} {n : Int} : evO s (.const (.int .i64 n)) = some (.one (.sc (.int .i64 n))) := rfl
theorem stepF_ok {h : Option Hint} {s s' : S} {o : Oper} {p : Prop} {K : S → Prop} (hT : TOk P T) (hs : stepF P T h s o = some (p, s')) (hp : p) (k : K s') : OpOK P o s K := by
  unfold stepF at hs
  split at hs
  · cases hs
  · rename_i hd
    have hV : ∀ {op : Op}, o.op = op → (stepV T s op).map (fun q => (q.1, s.put o.dst q.2)) = some (p, s') → OpOK P o s K := fun {op} ho hv => by
      obtain ⟨q, hq, he⟩ := Option.map_eq_some_iff.1 hv
      obtain ⟨rfl, rfl⟩ := Prod.mk.inj he
      rw [← ho] at hq
      exact stepV_ok hT hd hq hp k
    split at hs
    · rename_i t x y ho
      exact stepIx_ok hT ho hd hs hp k
    · rename_i c ho
      obtain ⟨cal, args, ats⟩ := c
      simp only at hs
      split at hs
      · rename_i f
        split at hs
        · rename_i p' ds r hl
          obtain ⟨rfl, rfl⟩ := pj hs
          exact r_call ho hd hl hp.1 hp.2 k
        · rename_i p' ds g hl
          obtain ⟨rfl, rfl⟩ := pj hs
          exact r_call ho hd hl hp.1 hp.2 k
        · cases hs
      · split at hs
        · rename_i f p' ds r hf hl
          obtain ⟨rfl, rfl⟩ := pj hs
          exact r_callV ho (calleeF_ok hf) hd hl hp.1 hp.2 k
        · rename_i f p' ds g hf hl
          obtain ⟨rfl, rfl⟩ := pj hs
          exact r_callV ho (calleeF_ok hf) hd hl hp.1 hp.2 k
        · cases hs
      · split at hs
        · rename_i hdst
          exact stepApF_ok hT ho hd hdst hs hp k
        · exact stepAp_ok hT ho hd hs hp k
      · exact stepCp_ok hT ho hd hs hp k
      · exact hV ho hs
    · rename_i f ho
      obtain ⟨rfl, rfl⟩ := pj hs
      exact r_makeFunc ho hd k
    · rename_i t x ho
      split at hs
      · rename_i cs hcs
        obtain ⟨rfl, rfl⟩ := pj hs
        obtain ⟨v, hv, hm⟩ := Option.bind_eq_some_iff.1 hcs
        exact r_box ho hd hv hm k
      · cases hs
    · rename_i t ho
      split at hs
      · rename_i i ht
        obtain ⟨rfl, rfl⟩ := pj hs
        exact r_alloc hT ho hd ht k
      · cases hs
    · rename_i t x y ho
      split at hs
      · rename_i i id r f cs hdst ht hx hcs
        split at hs
        · rename_i ob hlk
          obtain ⟨q, hq, he⟩ := Option.map_eq_some_iff.1 hs
          obtain ⟨rfl, rfl⟩ := Prod.mk.inj he
          obtain ⟨v, hv, hm⟩ := Option.bind_eq_some_iff.1 hcs
          exact r_store hT ho hdst ht hx hv hm hlk hq hp.1 hp.2 k
        · cases hs
      · cases hs
    · rename_i t parts ho
      split at hs
      · rename_i i ht
        split at hs
        · rename_i l hk
          obtain ⟨q, hq, he⟩ := Option.map_eq_some_iff.1 hs
          obtain ⟨rfl, rfl⟩ := Prod.mk.inj he
          exact r_build hT ho hd ht hk hq hp.1 hp.2 k
        · rename_i m e hk
          split at hs
          · rename_i ie he'
            obtain ⟨q, hq, he⟩ := Option.map_eq_some_iff.1 hs
            obtain ⟨rfl, rfl⟩ := Prod.mk.inj he
            exact r_buildA hT ho hd ht hk he' hq hp k
          · cases hs
        · cases hs
      · cases hs
    · rename_i t x y ho
      split at hs
      · rename_i i kk n ht hx
        split at hs
        · rename_i e hk
          split at hs
          · rename_i ie he
            split at hs
            · rename_i hxy
              subst hxy
              obtain ⟨rfl, rfl⟩ := pj hs
              exact new_nfH (fun K k => r_make hT ho hd ht hk he hx hp k) k
            · cases hs
          · cases hs
        · cases hs
      · cases hs
    · rename_i t m m' ho
      split at hs
      · rename_i i ht
        split at hs
        · rename_i e hk
          split at hs
          · rename_i ie he
            split at hs
            · rename_i hxy
              subst hxy
              obtain ⟨rfl, rfl⟩ := pj hs
              exact new_nfH (fun K k => r_make hT ho hd ht hk he (evO_int (s := s)) hp k) k
            · cases hs
          · cases hs
        · cases hs
      · cases hs
    · rename_i t len parts ho
      split at hs
      · rename_i i ht
        split at hs
        · rename_i e hk
          split at hs
          · rename_i ie he
            split at hs
            · split at hs
              · rename_i hemp
                obtain ⟨rfl, rfl⟩ := pj hs
                obtain rfl : parts = #[] := by cases parts; simpa using hemp
                exact r_buildSlice0 hT ho hd ht hk he k
              · cases hs
            · split at hs
              · rename_i d hdst
                obtain ⟨q, hq, he'⟩ := Option.map_eq_some_iff.1 hs
                obtain ⟨rfl, rfl⟩ := Prod.mk.inj he'
                exact r_buildSliceF hT ho hd hdst ht hk he ⟨Nat.succ_pos _, hp.2.1⟩ hq hp.1 hp.2.2.1 hp.2.2.2 (by rw [hdst]; exact k)
              · obtain ⟨q, hq, he'⟩ := Option.map_eq_some_iff.1 hs
                obtain ⟨rfl, rfl⟩ := Prod.mk.inj he'
                exact r_buildSlice hT ho hd ht hk he ⟨Nat.succ_pos _, hp.2.1⟩ hq hp.1 hp.2.2.1 hp.2.2.2 k
          · cases hs
        · cases hs
      · cases hs
    · rename_i t x lo hi ho
      split at hs
      · rename_i i c ht hx
        split at hs
        · rename_i e hk
          split at hs
          · rename_i ie he
            split at hs
            · rename_i rows hc
              split at hs
              · rename_i l h hl hh
                obtain ⟨rfl, rfl⟩ := pj hs
                exact r_sliceF hT ho hd ht hk he hx hc hl hh hp.1 hp.2 k
              · cases hs
            · split at hs
              · rename_i id off len _
                split at hs
                · rename_i rows l h hlk hl hh
                  obtain ⟨rfl, rfl⟩ := pj hs
                  exact r_sliceR hT ho hd ht hk he hx hlk hl hh hp.1 hp.2 k
                · cases hs
              · cases hs
          · cases hs
        · cases hs
      · cases hs
    · rename_i op t x y yt ho
      obtain ⟨q, hq, he⟩ := Option.map_eq_some_iff.1 hs
      obtain ⟨rfl, rfl⟩ := Prod.mk.inj he
      exact stepB_ok hT ho hd hq hp k
    · rename_i t x ho
      obtain ⟨q, hq, he⟩ := Option.map_eq_some_iff.1 hs
      obtain ⟨rfl, rfl⟩ := Prod.mk.inj he
      obtain ⟨hp1, hp2⟩ := fixV_ok hp
      rw [← ho] at hq
      rcases hp2 with hp2 | hp2
      · rw [hp2] at k
        exact stepV_ok hT hd hq hp1 k
      · rw [hp2] at k
        exact put_nf (fun K k => stepV_ok hT hd hq hp1 k) k
    · exact hV rfl hs

end Mg

/- The abstract state logic, part 37: trees of one's own: calls that make them, and calls whose results are kept apart. No condition. -/
namespace Mg
open Go Go.RowKit
set_option linter.unusedVariables false

variable {P : Program} {T : Tab}

/-- A side condition. -/
structure Side (p : Prop) : Prop where
  h : p

abbrev Bk := Nat → Prop
/-- A slice's blocks, and the slice. -/
structure Tk where
  B : Bk
  u : Value
/-- A slice, said to lie in the blocks B. -/
def labc (o : Bool) (t : Tk) : MC → MC
  | .fz rows => .tr o t.B t.u rows
  | c => c
def labRow (o : Bool) (B : Nat → Tk) : Nat → List MC → List MC
  | _, [] => []
  | j, c :: cs => labc o (B j) c :: labRow o B (j + 1) cs
def labR (o : Bool) (B : Nat → Nat → Tk) : Nat → List (List MC) → List (List MC)
  | _, [] => []
  | i, r :: rs => labRow o (B i) 0 r :: labR o B (i + 1) rs
def lab1 (o : Bool) (B : Nat → Tk) : MV → MV
  | .one c => .one (labc o (B 0) c)
  | .agg cs => .agg (labRow o B 0 cs)
  | v => v
def labT (o : Bool) (B : Nat → Nat → Tk) : Nat → List MV → List MV
  | _, [] => []
  | i, v :: vs => lab1 o (B i) v :: labT o B (i + 1) vs
def lab (o : Bool) (B : Nat → Nat → Tk) : MV → MV
  | .tup vs => .tup (labT o B 0 vs)
  | v => lab1 o (B 0) v

theorem labRow_get (o : Bool) (B : Nat → Tk) : ∀ (cs : List MC) (k j : Nat), (labRow o B k cs)[j]? = (cs[j]?).map (labc o (B (k + j)))
  | [], k, j => by simp [labRow]
  | c :: cs, k, 0 => by simp [labRow]
  | c :: cs, k, j + 1 => by
    have := labRow_get o B cs (k + 1) j
    simp only [labRow, List.getElem?_cons_succ, this]
    rw [show k + 1 + j = k + (j + 1) by omega]
theorem labR_get (o : Bool) (B : Nat → Nat → Tk) : ∀ (rs : List (List MC)) (k i : Nat), (labR o B k rs)[i]? = (rs[i]?).map (labRow o (B (k + i)) 0)
  | [], k, i => by simp [labR]
  | c :: cs, k, 0 => by simp [labR]
  | c :: cs, k, i + 1 => by
    have := labR_get o B cs (k + 1) i
    simp only [labR, List.getElem?_cons_succ, this]
    rw [show k + 1 + i = k + (i + 1) by omega]
theorem labT_get (o : Bool) (B : Nat → Nat → Tk) : ∀ (rs : List MV) (k i : Nat), (labT o B k rs)[i]? = (rs[i]?).map (lab1 o (B (k + i)))
  | [], k, i => by simp [labT]
  | c :: cs, k, 0 => by simp [labT]
  | c :: cs, k, i + 1 => by
    have := labT_get o B cs (k + 1) i
    simp only [labT, List.getElem?_cons_succ, this]
    rw [show k + 1 + i = k + (i + 1) by omega]
theorem labRow_len (o : Bool) (B : Nat → Tk) : ∀ (cs : List MC) (k : Nat), (labRow o B k cs).length = cs.length
  | [], k => rfl
  | c :: cs, k => by simp [labRow, labRow_len o B cs]
theorem labR_len (o : Bool) (B : Nat → Nat → Tk) : ∀ (cs : List (List MC)) (k : Nat), (labR o B k cs).length = cs.length
  | [], k => rfl
  | c :: cs, k => by simp [labR, labR_len o B cs]
theorem labT_len (o : Bool) (B : Nat → Nat → Tk) : ∀ (cs : List MV) (k : Nat), (labT o B k cs).length = cs.length
  | [], k => rfl
  | c :: cs, k => by simp [labT, labT_len o B cs]

/-- A value that is read by scalars and by what lies in blocks that are told. -/
def RT (w : World) : MC → Value → Prop
  | .sc u, v => v = u ∧ u.oneCell' = true
  | .tr o B u rows, v => v = u ∧ TrR w o B rows v
  | _, _ => False
def RT1 (w : World) : MV → Value → Prop
  | .one c, v => RT w c v
  | .agg cs, v => ∃ arr : Array Value, v = .agg arr ∧ arr.size = cs.length ∧ ∀ (j : Nat) (c : MC), cs[j]? = some c → ∃ u : Value, arr[j]? = some u ∧ RT w c u
  | _, _ => False
def RTV (w : World) : MV → Value → Prop
  | .tup vs, v => ∃ arr : Array Value, v = .tuple arr ∧ arr.size = vs.length ∧ ∀ (j : Nat) (x : MV), vs[j]? = some x → ∃ u : Value, arr[j]? = some u ∧ RT1 w x u
  | x, v => RT1 w x v

/-- The sets of a value. -/
def inC (b : Nat) : MC → Prop
  | .tr _ B _ _ => B b
  | _ => False
def in1 (b : Nat) : MV → Prop
  | .one c => inC b c
  | .agg cs => ∃ c ∈ cs, inC b c
  | _ => False
def inV (b : Nat) : MV → Prop
  | .tup vs => ∃ v ∈ vs, in1 b v
  | v => in1 b v

theorem RT.rc {w : World} {st : Sto} {L : Lay} {F : FF} {c : MC} {v : Value} (h : RT w c v) (hF : ∀ b, inC b c → F.n b ∧ ¬ F.a b) : RC st L w F c v := by
  cases c <;> first | exact h.elim | skip
  · exact h
  · exact ⟨h.1, fun b hb => ⟨.inl (hF b hb).1, fun _ => hF b hb⟩, h.2⟩
theorem RT.bd {w : World} {c : MC} {v : Value} {n : Nat} (h : RT w c v) : c.bd n := by cases c <;> first | exact h.elim | trivial
theorem RT1.rv {w : World} {st : Sto} {L : Lay} {F : FF} {x : MV} {v : Value} (h : RT1 w x v) (hF : ∀ b, in1 b x → F.n b ∧ ¬ F.a b) : RV1 st L w F x v := by
  cases x with
  | one c => exact RT.rc h hF
  | agg cs =>
    obtain ⟨arr, rfl, h1, h2⟩ := h
    exact ⟨arr, rfl, h1, fun j c hj => by
      obtain ⟨u, hu, hr⟩ := h2 j c hj
      exact ⟨u, hu, hr.rc fun b hb => hF b ⟨c, List.mem_of_getElem? hj, hb⟩⟩⟩
  | un => exact h.elim
  | tup _ => exact h.elim
theorem RT1.bd {w : World} {x : MV} {v : Value} {n : Nat} (h : RT1 w x v) : x.bd1 n := by
  cases x with
  | one c => exact RT.bd h
  | agg cs =>
    obtain ⟨arr, rfl, h1, h2⟩ := h
    intro c hc
    obtain ⟨j, hj⟩ := List.getElem?_of_mem hc
    obtain ⟨u, _, hr⟩ := h2 j c hj
    exact hr.bd
  | un => exact h.elim
  | tup _ => exact h.elim
theorem RTV.rv {w : World} {st : Sto} {L : Lay} {F : FF} {x : MV} {v : Value} (h : RTV w x v) (hF : ∀ b, inV b x → F.n b ∧ ¬ F.a b) : RV st L w F x v := by
  cases x with
  | one c => exact RT1.rv (x := .one c) h hF
  | agg cs => exact RT1.rv (x := .agg cs) h hF
  | un => exact h.elim
  | tup vs =>
    obtain ⟨arr, rfl, h1, h2⟩ := h
    exact ⟨arr, rfl, h1, fun j c hj => by
      obtain ⟨u, hu, hr⟩ := h2 j c hj
      exact ⟨u, hu, hr.rv fun b hb => hF b ⟨c, List.mem_of_getElem? hj, hb⟩⟩⟩
theorem RTV.bd {w : World} {x : MV} {v : Value} {n : Nat} (h : RTV w x v) : x.bd n := by
  cases x with
  | one c => exact RT1.bd (x := .one c) h
  | agg cs => exact RT1.bd (x := .agg cs) h
  | un => exact h.elim
  | tup vs =>
    obtain ⟨arr, rfl, h1, h2⟩ := h
    intro c hc
    obtain ⟨j, hj⟩ := List.getElem?_of_mem hc
    obtain ⟨u, _, hr⟩ := h2 j c hj
    exact hr.bd


/-- Blocks apart. -/
def disC (B : Bk) : MC → Prop
  | .tr _ B0 _ _ => ∀ x, B0 x → ¬ B x
  | _ => True
def disV1 (B : Bk) : MV → Prop
  | .one c => disC B c
  | .agg cs => ∀ c ∈ cs, disC B c
  | _ => True
def disV (B : Bk) : MV → Prop
  | .tup vs => ∀ v ∈ vs, disV1 B v
  | v => disV1 B v
def disOb (B : Bk) : Ob → Prop
  | .box cs => ∀ c ∈ cs, disC B c
  | .arr rows => ∀ r ∈ rows, ∀ c ∈ r, disC B c
structure Dis (s : S) (B : Bk) : Prop where
  env : ∀ t v, look s.env t = some v → disV B v
  st : ∀ id o, look s.st id = some o → disOb B o

theorem RC.dis {st : Sto} {L : Lay} {w : World} {F : FF} {B : Bk} (hB : ∀ b, F.all b → ¬ B b) {c : MC} {v : Value} (h : RC st L w F c v) : disC B c := by
  cases c <;> first | trivial | exact fun x hx => hB x (h.2.1 x hx).1
theorem RV1.dis {st : Sto} {L : Lay} {w : World} {F : FF} {B : Bk} (hB : ∀ b, F.all b → ¬ B b) {x : MV} {v : Value} (h : RV1 st L w F x v) : disV1 B x := by
  cases x with
  | one c => exact RC.dis hB h
  | agg cs =>
    obtain ⟨arr, rfl, h1, h2⟩ := h
    intro c hc
    obtain ⟨j, hj⟩ := List.getElem?_of_mem hc
    obtain ⟨u, _, hr⟩ := h2 j c hj
    exact hr.dis hB
  | un => trivial
  | tup _ => exact h.elim
theorem RV.dis {st : Sto} {L : Lay} {w : World} {F : FF} {B : Bk} (hB : ∀ b, F.all b → ¬ B b) {x : MV} {v : Value} (h : RV st L w F x v) : disV B x := by
  cases x with
  | one c => exact RV1.dis (x := .one c) hB h
  | agg cs => exact RV1.dis (x := .agg cs) hB h
  | un => trivial
  | tup vs =>
    obtain ⟨arr, rfl, h1, h2⟩ := h
    intro c hc
    obtain ⟨j, hj⟩ := List.getElem?_of_mem hc
    obtain ⟨u, _, hr⟩ := h2 j c hj
    exact hr.dis hB
theorem ObOK.dis {st : Sto} {L : Lay} {w : World} {F : FF} {B : Bk} (hB : ∀ b, F.all b → ¬ B b) {id : Nat} {o : Ob} (h : ObOK st L w F id o) : disOb B o := by
  cases o with
  | box cs =>
    obtain ⟨b, s, _, _, h⟩ := h
    intro c hc
    obtain ⟨j, hj⟩ := List.getElem?_of_mem hc
    obtain ⟨u, _, hr⟩ := h j c hj
    exact hr.dis hB
  | arr rows =>
    intro r hr c hc
    rcases h with ⟨rfl, _⟩ | ⟨b, s, _, _, _, h⟩
    · cases hr
    · obtain ⟨i, hi⟩ := List.getElem?_of_mem hr
      obtain ⟨j, hj⟩ := List.getElem?_of_mem hc
      obtain ⟨u, _, hr⟩ := h i r hi j c hj
      exact hr.dis hB
theorem Rl.dis {w0 : World} {wr : Wr} {A : Nat → Prop} {L : Lay} {F : FF} {s : S} {a : Act} {w : World} (h : Rl w0 wr A L F s a w) {B : Bk} (hB : ∀ b, F.all b → ¬ B b) : Dis s B :=
  ⟨fun t v hv => (h.env t v hv).dis hB, fun id o ho => (h.ob id o ho).dis hB⟩

structure DisO (s : S) (B : Bk) : Prop where
  st : ∀ id o, look s.st id = some o → disOb B o
def DisH (fl : Bool) (s : S) (B : Bk) : Prop := match fl with
  | true => Dis s B
  | false => DisO s B
theorem Dis.h {s : S} {B : Bk} (h : Dis s B) (fl : Bool) : DisH fl s B := match fl with
  | true => h
  | false => ⟨h.st⟩

/-- Sets that lie apart. -/
def Apart (B : Nat → Nat → Tk) : Prop := ∀ i j i' j' x, (B i j).B x → (B i' j').B x → i = i' ∧ j = j'
def Any (B : Nat → Nat → Tk) : Bk := fun x => ∃ i j, (B i j).B x

/-- A CONTRACT of a function that makes trees: its results' slices are trees, each in new blocks of its own. -/
def TPure (P : Program) (f : Nat) (args : List MV) (r : MV) : Prop := Fun P f ∧
  ∀ (w : World) (A : Nat → Prop) (vals : Array Value), vals.size = args.length → (∀ (j : Nat) (x : MV), args[j]? = some x → ∃ v : Value, vals[j]? = some v ∧ FV w A x v) → (∀ b, A b → b < w.heap.size) → GT P w (fun _ => False) →
    Calls P f vals w fun e w' => ∃ (v : Value) (B : Nat → Nat → Tk), e = .returned v ∧ Below w.heap.size w w' ∧ RTV w' (lab true B r) v ∧ Apart B ∧ ∀ b, Any B b → w.heap.size ≤ b ∧ b < w'.heap.size

/-- The state behind a call that leaves all that was there, where the blocks N are new and written no more. -/
theorem Rl.below {w0 : World} {wr : Wr} {A : Nat → Prop} {L : Lay} {F : FF} {s : S} {a : Act} {w w' : World} (hR : Rl w0 wr A L F s a w) (hbel : Below w.heap.size w w') {N : Bk} (hN : ∀ b, N b → w.heap.size ≤ b ∧ b < w'.heap.size) :
    Rl w0 wr A L ⟨fun b => F.n b ∨ N b, F.a⟩ s a w' := by
  have hold : ∀ b, b < w.heap.size → w'.heap[b]? = w.heap[b]? := hbel.block
  have hi : ∀ x : MC, x.bd s.n → ∀ u, RC (look s.st) L w F x u → RC (look s.st) L w' ⟨fun b => F.n b ∨ N b, F.a⟩ x u := fun x hx u hr =>
    RC.same (F' := ⟨fun b => F.n b ∨ N b, F.a⟩) (fun b hb => hold b (hR.fsz b hb)) ⟨fun _ h => Or.inl h, fun _ h => h, fun _ h => h⟩ (fun _ _ => rfl) (fun id b t j hid hL hj => by
      rw [World.cell?_of_block (w := w) (hold b (hR.own id b t hid hL).2.1)]; exact hj) hr
  refine ⟨hbel.os.trans hR.os, hbel.tape.trans hR.tape, hbel.output.trans hR.output, Nat.le_trans hR.size hbel.size, fun k hk hn => (hold k (Nat.lt_of_lt_of_le hk hR.size)).trans (hR.keep k hk hn), fun b j hb hc => by rw [World.cell?_of_block (w := w) (hold b (Nat.lt_of_lt_of_le hb hR.size))]; exact hR.kc b j hb hc, hR.pin, hR.fa, ?_, ?_, ?_, ?_, hR.inj, hR.sz, ?_, hR.bst, hR.ben, hR.df⟩
  · rintro b (hb | hb)
    · exact hR.fn b hb
    · exact .inl (Nat.le_trans hR.size (hN b hb).1)
  · rintro b ((hb | hb) | hb)
    · exact Nat.lt_of_lt_of_le (hR.fsz b (.inl hb)) hbel.size
    · exact (hN b hb).2
    · exact Nat.lt_of_lt_of_le (hR.fsz b (.inr hb)) hbel.size
  · exact fun id o ho => (hR.ob id o ho).imp (hR.bst id o ho).2 rfl (fun b t hL => hold b (hR.own id b t (by simp [ho]) hL).2.1) hi
  · intro id b t h3 h4
    have := hR.own id b t h3 h4
    refine ⟨?_, Nat.lt_of_lt_of_le this.2.1 hbel.size, this.2.2⟩
    rintro ((hb | hb) | hb)
    · exact this.1 (.inl hb)
    · have := (hN b hb).1; have := (hR.own id b t h3 h4).2.1; omega
    · exact this.1 (.inr hb)
  · exact fun t v hv => (hR.env t v hv).imp (hR.ben t v hv) hi

theorem inC_labc {o : Bool} {B : Tk} {c : MC} {b : Nat} (h : inC b (labc o B c)) : B.B b ∨ inC b c := by
  cases c <;> first | exact .inl h | exact .inr h
theorem in1_lab1 {o : Bool} {B : Nat → Tk} {x : MV} {b : Nat} (h : in1 b (lab1 o B x)) : (∃ j, (B j).B b) ∨ in1 b x := by
  cases x with
  | one c => exact (inC_labc h).imp (fun h => ⟨0, h⟩) id
  | agg cs =>
    obtain ⟨c, hc, hb⟩ := h
    obtain ⟨j, hj⟩ := List.getElem?_of_mem hc
    rw [labRow_get] at hj
    obtain ⟨c0, hc0, rfl⟩ := Option.map_eq_some_iff.1 hj
    rcases inC_labc hb with hb | hb
    · exact .inl ⟨_, hb⟩
    · exact .inr ⟨c0, List.mem_of_getElem? hc0, hb⟩
  | un => exact .inr h
  | tup _ => exact .inr h
theorem inV_lab {o : Bool} {B : Nat → Nat → Tk} {x : MV} {b : Nat} (h : inV b (lab o B x)) : Any B b ∨ inV b x := by
  cases x with
  | one c => exact (in1_lab1 (x := .one c) h).imp (fun ⟨j, h⟩ => ⟨0, j, h⟩) id
  | agg cs => exact (in1_lab1 (x := .agg cs) h).imp (fun ⟨j, h⟩ => ⟨0, j, h⟩) id
  | un => exact .inr h
  | tup vs =>
    obtain ⟨c, hc, hb⟩ := h
    obtain ⟨j, hj⟩ := List.getElem?_of_mem hc
    rw [labT_get] at hj
    obtain ⟨c0, hc0, rfl⟩ := Option.map_eq_some_iff.1 hj
    rcases in1_lab1 hb with ⟨k, hb⟩ | hb
    · exact .inl ⟨_, k, hb⟩
    · exact .inr ⟨c0, List.mem_of_getElem? hc0, hb⟩

/-- No cell of a contract's result names blocks. -/
def plainC : MC → Bool
  | .tr _ _ _ _ => false
  | _ => true
def plain1 : MV → Bool
  | .one c => plainC c
  | .agg cs => cs.all plainC
  | _ => true
def plainV : MV → Bool
  | .tup vs => vs.all plain1
  | v => plain1 v
theorem plainC_in {c : MC} {b : Nat} (h : plainC c = true) : ¬ inC b c := by cases c <;> first | exact id | (cases h)
theorem plain1_in {x : MV} {b : Nat} (h : plain1 x = true) : ¬ in1 b x := by
  cases x with
  | one c => exact plainC_in h
  | agg cs => exact fun ⟨c, hc, hb⟩ => plainC_in (List.all_eq_true.1 h c hc) hb
  | un => exact id
  | tup _ => exact id
theorem plainV_in {x : MV} {b : Nat} (h : plainV x = true) : ¬ inV b x := by
  cases x with
  | one c => exact plain1_in (x := .one c) h
  | agg cs => exact plain1_in (x := .agg cs) h
  | un => exact id
  | tup vs => exact fun ⟨c, hc, hb⟩ => plain1_in (List.all_eq_true.1 h c hc) hb

/-- A CALL that makes trees. -/
theorem r_callT {o : Oper} {s : S} {K : S → Prop} {f : Nat} {xs : Array Operand} {ts : Array TypeId} {p : Prop} {ds : List MV} {r : MV} (ho : o.op = .call { callee := .value (.func f), args := xs, argTypes := ts })
    (hd : Oper.dok o s.m = true) (hl : lend s xs.toList = some (p, ds)) (hp : p) (hc : TPure P f ds r) (hpl : plainV r = true) (k : ∀ B, Apart B → Dis s (Any B) → K (s.put o.dst (lab true B r))) : OpOK P o s K := by
  intro w0 wr A a w Q K' hg ⟨L, F, hR⟩ hK
  obtain ⟨⟨fn, hfn, hname, hbody⟩, hc⟩ := hc
  obtain ⟨h1, h2⟩ := lend_ok hR hl hp
  have hrun : (execOp a.eval o).run P w = .ok (.enter f (xs.map a.eval)) w := by
    simp only [execOp, ho, resolve, Act.eval, Deferred.ofValue, Sem.run_bind, Sem.run_pure, Result.andThen_ok, invoke, callFunc, run_program, hfn, hname, hbody]
    simp
  unfold Oper.wp
  rw [hrun]
  show Calls P f (xs.map a.eval) w _
  have hcall := hc w (fun b => b < w.heap.size) (xs.map a.eval) (by simp [h1]) (fun j x hj => by
    obtain ⟨v, hv, hx⟩ := h2 j x hj
    exact ⟨v, by simpa using hv, hx⟩) (fun b hb => hb) (hg.gt.move hR.size fun g h1 h2 => ⟨hR.keep g h1 h2, id⟩)
  refine hcall.mono fun e w' hpost => ?_
  obtain ⟨v, B, rfl, hbel, hrt, hap, hnew⟩ := hpost
  have hdis : ∀ b, F.all b → ¬ Any B b := fun b hb hB => by
    have := hR.fsz b hb; have := (hnew b hB).1; omega
  have hR' := hR.below hbel hnew
  exact hK _ _ _ ⟨L, _, hR'.put (Oper.dok_spec hd) (hrt.rv fun b hb => by
    have h3 := (inV_lab hb).resolve_right (plainV_in hpl)
    exact ⟨.inr h3, fun h4 => hdis b (.inr h4) h3⟩) hrt.bd⟩ (k B hap (hR.dis hdis))

/-- A frozen result, told with its blocks. -/
theorem RF.rt {w : World} {F : Nat → Prop} {c : MC} {v : Value} (h : RF w F c v) : RT w (labc false ⟨F, v⟩ c) v := by
  cases h with
  | sc v h => exact ⟨rfl, h⟩
  | nilz a cap => exact ⟨rfl, RF.nilz a cap⟩
  | fz rows b off cap s f hb hs hcap hc hr => exact ⟨rfl, RF.fz rows b off cap s f hb hs hcap hc hr⟩

theorem OC.frz {w : World} {F : Nat → Prop} {cs : List MC} {vs : List Value} {bs : List Nat} (h : OC w F cs vs bs) (hf : cs.all MC.frz = true) :
    vs.length = cs.length ∧ ∀ (j : Nat) (c : MC), cs[j]? = some c → ∃ u : Value, vs[j]? = some u ∧ RF w F c u := by
  induction h with
  | nil => exact ⟨rfl, fun j c hj => by simp at hj⟩
  | fz h t ih =>
    simp only [List.all_cons, Bool.and_eq_true] at hf
    obtain ⟨h1, h2⟩ := ih hf.2
    refine ⟨by simp [h1], fun j c hj => ?_⟩
    cases j with
    | zero => obtain rfl := Option.some.inj hj; exact ⟨_, rfl, h⟩
    | succ j => exact h2 j c hj
  | own0 t ih => simp [MC.frz] at hf
  | own h t ih => simp [MC.frz] at hf
def frz1 : MV → Bool
  | .one c => c.frz
  | .agg cs => cs.all MC.frz
  | _ => false
def frzVT : MV → Bool
  | .tup vs => vs.all frz1
  | v => frz1 v
theorem OV1.rt {w : World} {F : Nat → Prop} {x : MV} {v : Value} {bs : List Nat} (h : OV1 w F x v bs) (hf : frz1 x = true) : ∃ U : Nat → Value, RT1 w (lab1 false (fun j => ⟨F, U j⟩) x) v := by
  cases x with
  | one c =>
    obtain ⟨_, h2⟩ := OC.frz h (by simpa [frz1] using hf)
    obtain ⟨u, hu, hr⟩ := h2 0 c rfl
    obtain rfl := Option.some.inj hu
    exact ⟨fun _ => v, hr.rt⟩
  | agg cs =>
    obtain ⟨arr, rfl, h⟩ := h
    obtain ⟨h1, h2⟩ := OC.frz h hf
    refine ⟨fun j => arr.getD j undef, arr, rfl, by rw [labRow_len]; simpa using h1, fun j c hj => ?_⟩
    rw [labRow_get] at hj
    obtain ⟨c0, hc0, rfl⟩ := Option.map_eq_some_iff.1 hj
    obtain ⟨u, hu, hr⟩ := h2 j c0 hc0
    have hu' : arr[j]? = some u := by simpa using hu
    refine ⟨u, hu', ?_⟩
    have : arr.getD (0 + j) undef = u := by rw [Nat.zero_add, Array.getD_eq_getD_getElem?, hu']; rfl
    show RT w (labc false ⟨F, arr.getD (0 + j) undef⟩ c0) u
    rw [this]; exact hr.rt
  | un => cases hf
  | tup _ => cases hf
theorem OT.rt {w : World} {F : Nat → Prop} {xs : List MV} {vs : List Value} {bs : List Nat} (h : OT w F xs vs bs) (hf : xs.all frz1 = true) :
    vs.length = xs.length ∧ ∃ U : Nat → Nat → Value, ∀ (j : Nat) (x : MV), xs[j]? = some x → ∃ u : Value, vs[j]? = some u ∧ RT1 w (lab1 false (fun k => ⟨F, U j k⟩) x) u := by
  induction h with
  | nil => exact ⟨rfl, fun _ _ => undef, fun j c hj => by simp at hj⟩
  | cons h t ih =>
    simp only [List.all_cons, Bool.and_eq_true] at hf
    obtain ⟨h1, U, h2⟩ := ih hf.2
    obtain ⟨U0, h0⟩ := h.rt hf.1
    refine ⟨by simp [h1], fun j => match j with | 0 => U0 | j + 1 => U j, fun j c hj => ?_⟩
    cases j with
    | zero => obtain rfl := Option.some.inj hj; exact ⟨_, rfl, h0⟩
    | succ j => exact h2 j c hj
theorem OV.rt {w : World} {F : Nat → Prop} {x : MV} {v : Value} {bs : List Nat} (h : OV w F x v bs) (hf : frzVT x = true) : ∃ U : Nat → Nat → Value, RTV w (lab false (fun i j => ⟨F, U i j⟩) x) v := by
  cases x with
  | one c => obtain ⟨U, h⟩ := OV1.rt (x := .one c) h hf; exact ⟨fun _ => U, h⟩
  | agg cs => obtain ⟨U, h⟩ := OV1.rt (x := .agg cs) h hf; exact ⟨fun _ => U, h⟩
  | un => exact h.elim
  | tup vs =>
    obtain ⟨arr, rfl, h⟩ := h
    obtain ⟨h1, U, h2⟩ := h.rt hf
    refine ⟨U, arr, rfl, by rw [labT_len]; simpa using h1, fun j c hj => ?_⟩
    rw [labT_get] at hj
    obtain ⟨c0, hc0, rfl⟩ := Option.map_eq_some_iff.1 hj
    obtain ⟨u, hu, hr⟩ := h2 j c0 hc0
    exact ⟨u, by simpa using hu, by rw [Nat.zero_add]; exact hr⟩
theorem frz_plain {c : MC} (h : c.frz = true) : plainC c = true := by cases c <;> first | rfl | (cases h)
theorem frzVT_plain {x : MV} (h : frzVT x = true) : plainV x = true := by
  have h1 : ∀ x, frz1 x = true → plain1 x = true := fun x h => by
    cases x with
    | one c => exact frz_plain h
    | agg cs => exact List.all_eq_true.2 fun c hc => frz_plain (List.all_eq_true.1 h c hc)
    | un => rfl
    | tup _ => rfl
  cases x with
  | one c => exact h1 (.one c) h
  | agg cs => exact h1 (.agg cs) h
  | un => rfl
  | tup vs => exact List.all_eq_true.2 fun c hc => h1 c (List.all_eq_true.1 h c hc)

/-- A CALL whose frozen result is told with its blocks. -/
theorem r_callF {o : Oper} {s : S} {K : S → Prop} {f : Nat} {xs : Array Operand} {ts : Array TypeId} {p : Prop} {ds : List MV} {r : MV} (ho : o.op = .call { callee := .value (.func f), args := xs, argTypes := ts })
    (hd : Oper.dok o s.m = true) (hl : lend s xs.toList = some (p, ds)) (hp : p) (hc : Pure P false f ds r) (hfr : frzVT r = true) (k : ∀ (B : Bk) (U : Nat → Nat → Value), Dis s B → K (s.put o.dst (lab false (fun i j => ⟨B, U i j⟩) r))) : OpOK P o s K := by
  intro w0 wr A a w Q K' hg ⟨L, F, hR⟩ hK
  obtain ⟨⟨fn, hfn, hname, hbody⟩, hc⟩ := hc
  obtain ⟨h1, h2⟩ := lend_ok hR hl hp
  have hrun : (execOp a.eval o).run P w = .ok (.enter f (xs.map a.eval)) w := by
    simp only [execOp, ho, resolve, Act.eval, Deferred.ofValue, Sem.run_bind, Sem.run_pure, Result.andThen_ok, invoke, callFunc, run_program, hfn, hname, hbody]
    simp
  unfold Oper.wp
  rw [hrun]
  show Calls P f (xs.map a.eval) w _
  have hcall := hc w (fun b => b < w.heap.size) (xs.map a.eval) (by simp [h1]) (fun j x hj => by
    obtain ⟨v, hv, hx⟩ := h2 j x hj
    exact ⟨v, by simpa using hv, hx⟩) (fun b hb => hb) (hg.gt.move hR.size fun g h1 h2 => ⟨hR.keep g h1 h2, id⟩)
  refine hcall.mono fun e w' hpost => ?_
  obtain ⟨v, B, bs, rfl, hbel, hnew0, hov, _, _⟩ := hpost
  have hnew : ∀ b, B b → w.heap.size ≤ b ∧ b < w'.heap.size := fun b hb => by
    obtain ⟨h3, h4⟩ := hnew0 b hb
    exact ⟨h4.resolve_right (by simp), h3⟩
  have hdis : ∀ b, F.all b → ¬ B b := fun b hb hB => by
    have := hR.fsz b hb; have := (hnew b hB).1; omega
  have hR' := hR.below hbel hnew
  obtain ⟨U, hrt⟩ := hov.rt hfr
  exact hK _ _ _ ⟨L, _, hR'.put (Oper.dok_spec hd) (hrt.rv fun b hb => by
    obtain ⟨_, _, h⟩ := (inV_lab hb).resolve_right (plainV_in (frzVT_plain hfr)); exact ⟨.inr h, fun h4 => hdis b (.inr h4) h⟩) hrt.bd⟩ (k B U (hR.dis hdis))

/-- A flat function's slices of its own are trees. -/
theorem OwnB.tr {w : World} {F : Nat → Prop} {b s cap : Nat} {rows : List (List MC)} (h : OwnB w F b s cap rows) (hsc : ∀ r ∈ rows, ∀ c ∈ r, ∃ v, c = .sc v) (hsz : b < w.heap.size) :
    TR w (.fz rows) (.slice (some ⟨b, 0, none⟩) rows.length cap) (fun x => x = b) := by
  obtain ⟨hf, h0, hs, hcap, hx, hc⟩ := h
  refine .fz rows b cap s (fun i j => (w.cell? ⟨b, i * s + j, none⟩).getD undef) (fun _ _ _ => False) _ h0 hf hs hcap hx hsz (fun i j r c h1 h2 => ?_) (fun i j r c h1 h2 => ?_) (fun _ _ _ _ _ h => h.elim) (fun _ _ h => h) (fun x => by simp) (fun _ _ _ h => h.elim)
  · obtain ⟨u, hu, _⟩ := hc i r h1 j c h2
    simp [hu]
  · obtain ⟨u, hu, hr⟩ := hc i r h1 j c h2
    obtain ⟨v, rfl⟩ := hsc r (List.mem_of_getElem? h1) c (List.mem_of_getElem? h2)
    have e : (w.cell? ⟨b, i * s + j, none⟩).getD undef = u := by rw [hu]; rfl
    rw [e]
    have h1 := hr.one
    cases hr
    exact .sc _ _ h1 fun _ h => h

end Mg
