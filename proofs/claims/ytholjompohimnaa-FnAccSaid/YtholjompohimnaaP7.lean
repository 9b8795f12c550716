/- Parts of the abstract state logic and of the walks, one behind the other: Mg15, Mg16, Mg17. No condition. -/
import Derived.Test.YtholjompohimnaaP5
import Derived.Test.YtholjompohimnaaP6
import Derived.ChangeArms
import Derived.OpenShut
/- The abstract state logic, part 15: every operation's step, and regions, reckoned. No condition. -/
namespace Mg
open Go Go.RowKit
set_option linter.unusedVariables false

variable {P : Program} {T : Tab}

/-- A made list, as a hint says: 'nothing' in it read as an empty list. -/
def nfH : Option Hint → List (List MC) → List (List MC)
  | some (.row _), rows => nfR rows
  | _, rows => rows
theorem new_nfH {o : Oper} {s : S} {K : S → Prop} {h : Option Hint} {rows : List (List MC)} {v : MV} (hop : ∀ K : S → Prop, K ((s.new (.arr rows)).put o.dst v) → OpOK P o s K) (k : K ((s.new (.arr (nfH h rows))).put o.dst v)) : OpOK P o s K := by
  unfold nfH at k
  split at k
  · intro w0 wr A a w Q K' hrel hK
    refine hop (fun s1 => s1 = (s.new (.arr rows)).put o.dst v) rfl w0 wr A a w Q K' hrel fun s' a' w' hrel' hs' => ?_
    subst hs'
    obtain ⟨L, F, h⟩ := hrel'
    have hlk : look ((s.new (.arr rows)).put o.dst v).st s.n = some (.arr rows) := by
      cases o.dst <;> simp [S.put, S.new, look_cons]
    refine hK _ a' w' ⟨L, F, Lk.rl ⟨?_, ?_, ?_, fun t => ?_⟩ (h.nf hlk)⟩ k
    · cases o.dst <;> rfl
    · cases o.dst <;> rfl
    · cases o.dst <;> simp [S.put, S.new, S.set, upd]
    · cases o.dst <;> rfl
  · exact hop K k

def stepIx (T : Tab) (h : Option Hint) (s : S) (o : Oper) (t : TypeId) (x y : Operand) : Option (Prop × S) :=
  match T t, evO s x, evO s y with
  | some i, some (.one c), some (.one (.sc (.int k n))) => match i.k with
    | .slice e => match T e with
      | some ie => match fzRows c, rowH h n with
        | some rows, some (.row row) => some (0 ≤ n ∧ rows[n.toNat]? = some row ∧ row.length = ie.size, s.put o.dst (.one (fzPtr c row)))
        | some _, _ => none
        | none, h => match c with
          | .ref id off len => match look s.st id, h with
            | some (.arr rows), some (.row row) => some ((0 ≤ n ∧ n < len) ∧ rows[off + n.toNat]? = some row ∧ row.length = ie.size, s.put o.dst (.one (.ptr id (off + n.toNat) 0)))
            | some (.arr rows), _ => some ((0 ≤ n ∧ n < len) ∧ off + n.toNat < rows.length ∧ (rows.getD (off + n.toNat) []).length = ie.size, s.put o.dst (.one (.ptr id (off + n.toNat) 0)))
            | _, _ => none
          | _ => none
      | none => none
    | .arr m e => match T e, okP (look s.st) c with
      | some ie, true => some (0 ≤ n ∧ n < m, s.put o.dst (.one (ptrAdd c (n.toNat * ie.size))))
      | _, _ => none
    | _ => none
  | _, _, _ => none

def stepAp (T : Tab) (s : S) (o : Oper) : List Operand → List TypeId → Option (Prop × S)
  | [x, y], [t, t2] => match T t, T t2, evO s x, evO s y with
    | some i, some i2, some (.one c), some (.one d) => match i.k, i2.k with
      | .slice e, .slice e2 => match T e, base? s c, rowsOf s d with
        | some ie, some (rows, st), some rows2 => if e = e2 then
            some ((match c with | .ref _ _ len => len = rows.length | _ => True) ∧ (∀ r ∈ rows, r.length = ie.size) ∧ (∀ r ∈ rows2, r.length = ie.size) ∧ (rows.length + rows2.length) * ie.bytes ≤ 140737488355328 ∧ rows.length + rows2.length ≤ 140737488355328,
              (s.app (rows ++ rows2) st).put o.dst (.one (.ref s.n 0 (rows.length + rows2.length)))) else none
        | _, _, _ => none
      | _, _ => none
    | _, _, _, _ => none
  | _, _ => none

/-- 'append' to nothing, with a hint: the list is written no more. -/
def stepApF (T : Tab) (s : S) (d : Nat) (r : MV) : List Operand → List TypeId → Option (Prop × S)
  | [x, y], [t, t2] => match T t, T t2, evO s x, evO s y with
    | some i, some i2, some (.one .nil), some (.one c) => match i.k, i2.k with
      | .slice e, .slice e2 => match T e, rowsOf s c with
        | some ie, some rows2 => if e = e2 then
            some ((∀ r ∈ rows2, r.length = ie.size) ∧ rows2.length * ie.bytes ≤ 140737488355328 ∧ rows2.length ≤ 140737488355328 ∧ AllF rows2 ∧ r = .one (.fz rows2), s.put (some d) r) else none
        | _, _ => none
      | _, _ => none
    | _, _, _, _ => none
  | _, _ => none

/-- 'copy' of as many rows as there are. -/
def stepCp (T : Tab) (s : S) (o : Oper) : List Operand → List TypeId → Option (Prop × S)
  | [x, y], [t, _] => match T t, evO s x, evO s y with
    | some i, some (.one (.ref id 0 n)), some (.one c) => match i.k with
      | .slice e => match T e, look s.st id, rowsOf s c with
        | some ie, some (.arr rows), some rows2 =>
            some (n = rows.length ∧ rows2.length = rows.length ∧ 0 < rows.length ∧ (∀ r ∈ rows, r.length = ie.size) ∧ (∀ r ∈ rows2, r.length = ie.size),
              (s.set id (.arr rows2)).put o.dst (.one (.sc (.int .i64 rows2.length))))
        | _, _, _ => none
      | _ => none
    | _, _, _ => none
  | _, _ => none

def stepB (P : Program) (T : Tab) (s : S) (op : BinOp) (t : TypeId) (x y : Operand) (yt : TypeId) : Option (Prop × MV) :=
  match evO s x, evO s y with
  | some (.agg xs), some (.agg ys) => match T t with
    | some i => match i.k, eqT T 8 t xs ys with
      | .struct _, some b => match op with
        | .eql => some (Chk (eqOk P 8 t && !P.eqGuardType P.depth t), .one (.sc (.bool b)))
        | .neq => some (Chk (eqOk P 8 t && !P.eqGuardType P.depth t), .one (.sc (.bool !b)))
        | _ => none
      | _, _ => none
    | none => none
  | _, _ => stepV T s (.binOp op t x y yt)

/-- 'Nothing' in a value, read as an empty list. -/
def nfV : MV → MV
  | .one c => .one c.nf
  | .agg cs => .agg (cs.map MC.nf)
  | v => v
theorem RV.nf {st : Sto} {L : Lay} {w : World} {F : FF} {x : MV} {v : Value} (h : RV st L w F x v) : RV st L w F (nfV x) v := by
  cases x with
  | one c => exact RC.nf h
  | agg cs =>
    obtain ⟨arr, rfl, h1, h2⟩ := h
    refine ⟨arr, rfl, by simpa using h1, fun j c hj => ?_⟩
    rw [List.getElem?_map] at hj
    obtain ⟨d, hd, rfl⟩ := Option.map_eq_some_iff.1 hj
    obtain ⟨u, hu, hr⟩ := h2 j d hd
    exact ⟨u, hu, hr.nf⟩
  | _ => exact h
theorem MV.nf_bd {x : MV} {n : Nat} (h : x.bd n) : (nfV x).bd n := by
  cases x with
  | one c => exact MC.nf_bd h
  | agg cs =>
    intro c hc
    obtain ⟨d, hd, rfl⟩ := List.mem_map.1 hc
    exact MC.nf_bd (h d hd)
  | _ => exact h
theorem put_nf {o : Oper} {s : S} {K : S → Prop} {v : MV} (hop : ∀ K : S → Prop, K (s.put o.dst v) → OpOK P o s K) (k : K (s.put o.dst (nfV v))) : OpOK P o s K := by
  intro w0 wr A a w Q K' hrel hK
  refine hop (fun s1 => s1 = s.put o.dst v) rfl w0 wr A a w Q K' hrel fun s' a' w' hrel' hs' => ?_
  subst hs'
  obtain ⟨L, F, h⟩ := hrel'
  refine hK _ a' w' ⟨L, F, ?_⟩ k
  cases hd : o.dst with
  | none => rw [hd] at h; exact h
  | some d =>
    rw [hd] at h
    refine ⟨h.os, h.tape, h.output, h.size, h.keep, h.kc, h.pin, h.fa, h.fn, h.fsz, h.ob, h.own, h.inj, h.sz, fun t u hu => ?_, h.bst, fun t u hu => ?_, h.df⟩
    · simp only [S.put, look_cons] at hu
      by_cases e : t = d
      · rw [if_pos e] at hu
        obtain rfl := Option.some.inj hu
        exact (h.env t v (by simp only [S.put, look_cons]; rw [if_pos e])).nf
      · rw [if_neg e] at hu
        exact h.env t u (by simp only [S.put, look_cons]; rw [if_neg e]; exact hu)
    · simp only [S.put, look_cons] at hu
      by_cases e : t = d
      · rw [if_pos e] at hu
        obtain rfl := Option.some.inj hu
        exact MV.nf_bd (h.ben t v (by simp only [S.put, look_cons]; rw [if_pos e]))
      · rw [if_neg e] at hu
        exact h.ben t u (by simp only [S.put, look_cons]; rw [if_neg e]; exact hu)
/-- A value that was read, as a hint says it. -/
def fixV : Option Hint → Prop × MV → Prop × MV
  | some (.res r), q => (q.1 ∧ q.2 = r, r)
  | some (.resf g), q => (q.1 ∧ q.2 = g [q.2], g [q.2])
  | some (.row _), q => (q.1, nfV q.2)
  | _, q => q
theorem fixV_ok {h : Option Hint} {q : Prop × MV} (hp : (fixV h q).1) : q.1 ∧ ((fixV h q).2 = q.2 ∨ (fixV h q).2 = nfV q.2) := by
  unfold fixV at hp ⊢
  split at hp
  · exact ⟨hp.1, .inl hp.2.symm⟩
  · exact ⟨hp.1, .inl hp.2.symm⟩
  · exact ⟨hp, .inr rfl⟩
  · exact ⟨hp, .inl rfl⟩

/-- One operation. -/
def stepF (P : Program) (T : Tab) (h : Option Hint) (s : S) (o : Oper) : Option (Prop × S) :=
  match Oper.dok o s.m with
  | false => none
  | true => match o.op with
    | .indexAddr t x y => stepIx T h s o t x y
    | .call c => match c.callee with
      | .value (.func f) => match lend s c.args.toList, h with
        | some (p, ds), some (.res r) => some (p ∧ Pure P false f ds r, (adV s r).2.put o.dst (adV s r).1)
        | some (p, ds), some (.resf g) => some (p ∧ Pure P false f ds (g ds), (adV s (g ds)).2.put o.dst (adV s (g ds)).1)
        | _, _ => none
      | .value (.tmp t) => match calleeF s t, lend s c.args.toList, h with
        | some f, some (p, ds), some (.res r) => some (p ∧ Pure P false f ds r, (adV s r).2.put o.dst (adV s r).1)
        | some f, some (p, ds), some (.resf g) => some (p ∧ Pure P false f ds (g ds), (adV s (g ds)).2.put o.dst (adV s (g ds)).1)
        | _, _, _ => none
      | .builtin .append => match h, o.dst with
        | some (.res r), some d => stepApF T s d r c.args.toList c.argTypes.toList
        | _, _ => stepAp T s o c.args.toList c.argTypes.toList
      | .builtin .copy => stepCp T s o c.args.toList c.argTypes.toList
      | _ => (stepV T s (.call c)).map fun q => (q.1, s.put o.dst q.2)
    | .makeFunc f ⟨[]⟩ ⟨[]⟩ => some (True, s.put o.dst (.one (.sc (.func f #[] #[]))))
    | .box t x => match (evO s x).bind mvCells with
      | some cs => some (True, (s.new (.box cs)).put o.dst (.one (.ptr s.n 0 0)))
      | none => none
    | .alloc t => match T t with
      | some i => some (True, (s.new (.box (i.z.map ZC.mc))).put o.dst (.one (.ptr s.n 0 0)))
      | none => none
    | .store t x y => match o.dst, T t, evO s x, (evO s y).bind mvCells with
      | none, some i, some (.one (.ptr id r f)), some cs => match look s.st id with
        | some ob => (obPut ob r f cs).map fun q => (q.1 ∧ cs.length = i.size, s.set id q.2)
        | none => none
      | _, _, _, _ => none
    | .build t parts => match T t with
      | some i => match i.k with
        | .struct l => (fillM s T (fun j => (l[j]?).bind fun q => (T q.2).map fun fi => (q.1, fi.size)) (i.z.map ZC.mc) parts.toList).map fun q => (q.1 ∧ (∀ g ∈ l, (T g.2).isSome = true), s.put o.dst (.agg q.2))
        | .arr m e => match T e with
          | some ie => (fillM s T (fun j => some (j * ie.size, ie.size)) (i.z.map ZC.mc) parts.toList).map fun q => (q.1, s.put o.dst (.agg q.2))
          | none => none
        | _ => none
      | none => none
    | .makeSlice t (.tmp x) (.tmp y) => match T t, evO s (.tmp x) with
      | some i, some (.one (.sc (.int k n))) => match i.k with
        | .slice e => match T e with
          | some ie => if x = y then some (0 ≤ n ∧ n ≤ 281474976710656 ∧ ie.bytes * n ≤ 281474976710656, (s.new (.arr (nfH h (List.replicate n.toNat (ie.z.map ZC.mc))))).put o.dst (.one (.ref s.n 0 n.toNat))) else none
          | none => none
        | _ => none
      | _, _ => none
    | .makeSlice t (.const (.int .i64 m)) (.const (.int .i64 m')) => match T t with
      | some i => match i.k with
        | .slice e => match T e with
          | some ie => if m = m' then some (0 ≤ m ∧ m ≤ 281474976710656 ∧ ie.bytes * m ≤ 281474976710656, (s.new (.arr (nfH h (List.replicate m.toNat (ie.z.map ZC.mc))))).put o.dst (.one (.ref s.n 0 m.toNat))) else none
          | none => none
        | _ => none
      | _ => none
    | .buildSlice t len parts => match T t with
      | some i => match i.k with
        | .slice e => match T e with
          | some ie => match len with
            | 0 => if parts.toList.isEmpty = true then some (True, s.put o.dst (.one .nil)) else none
            | n + 1 => match h, o.dst with
              | some (.row _), some d => (fillM s T (fun j => some (j * ie.size, ie.size)) (zrep (ie.z.map ZC.mc) (n + 1)) parts.toList).map fun q =>
                (q.1 ∧ (0 < ie.size ∧ (n + 1) * ie.size ≤ 16777216) ∧ q.2.length = (n + 1) * ie.size ∧ (∀ x ∈ q.2, x.nf.frz = true), s.put (some d) (.one (.fz (nfR (chunk (n + 1) ie.size q.2)))))
              | _, _ => (fillM s T (fun j => some (j * ie.size, ie.size)) (zrep (ie.z.map ZC.mc) (n + 1)) parts.toList).map fun q =>
                (q.1 ∧ (0 < ie.size ∧ (n + 1) * ie.size ≤ 16777216) ∧ q.2.length = (n + 1) * ie.size ∧ (∀ x ∈ q.2, x.bd s.n), (s.new (.arr (chunk (n + 1) ie.size q.2))).put o.dst (.one (.ref s.n 0 (n + 1))))
          | none => none
        | _ => none
      | none => none
    | .slice t x lo hi none => match T t, evO s x with
      | some i, some (.one c) => match i.k with
        | .slice e => match T e with
          | some ie => match fzRows c with
            | some rows => match bnd s 0 lo, bnd s rows.length hi with
              | some l, some h => some ((0 ≤ l ∧ l ≤ h ∧ h ≤ rows.length) ∧ ∀ r ∈ rows, r.length = ie.size, s.put o.dst (.one (fzMk c ((rows.take h.toNat).drop l.toNat))))
              | _, _ => none
            | none => match c with
              | .ref id off len => match look s.st id, bnd s 0 lo, bnd s len hi with
                | some (.arr rows), some l, some h => some ((0 ≤ l ∧ l ≤ h ∧ h ≤ len) ∧ ∀ r ∈ rows, r.length = ie.size, s.put o.dst (.one (.ref id (off + l.toNat) (h.toNat - l.toNat))))
                | _, _, _ => none
              | _ => none
          | none => none
        | _ => none
      | _, _ => none
    | .binOp op t x y yt => (stepB P T s op t x y yt).map fun q => (q.1, s.put o.dst q.2)
    | .load t x => (stepV T s (.load t x)).map fun q => ((fixV h q).1, s.put o.dst (fixV h q).2)
    | op => (stepV T s op).map fun q => (q.1, s.put o.dst q.2)

theorem pj {α β : Type} {a c : α} {b d : β} (h : some (a, b) = some (c, d)) : a = c ∧ b = d := Prod.mk.inj (Option.some.inj h)

theorem getD_some {α : Type} {l : List α} {i : Nat} {d : α} (h : i < l.length) : l[i]? = some (l.getD i d) := by simp [List.getElem?_eq_getElem h]

theorem stepIx_ok {h : Option Hint} {s s' : S} {o : Oper} {p : Prop} {K : S → Prop} {t : TypeId} {x y : Operand} (hT : TOk P T) (ho : o.op = .indexAddr t x y) (hd : Oper.dok o s.m = true)
    (hs : stepIx T h s o t x y = some (p, s')) (hp : p) (k : K s') : OpOK P o s K := by
  unfold stepIx at hs
  split at hs
  · rename_i i c kk n ht hx hy
    split at hs
    · rename_i e hk
      split at hs
      · rename_i ie he
        split at hs
        · rename_i rows row hc _
          obtain ⟨rfl, rfl⟩ := pj hs
          exact r_indexF hT ho hd ht hk he hx hc hy hp.1 hp.2.1 hp.2.2 k
        · cases hs
        · split at hs
          · rename_i id off len
            split at hs
            · rename_i rows row hlk _
              obtain ⟨rfl, rfl⟩ := pj hs
              exact r_indexR hT ho hd ht hk he hx hy hlk hp.1 hp.2.1 hp.2.2 k
            · rename_i rows hlk _
              obtain ⟨rfl, rfl⟩ := pj hs
              exact r_indexR hT ho hd ht hk he hx hy hlk hp.1 (getD_some hp.2.1) hp.2.2 k
            · cases hs
          · cases hs
      · cases hs
    · rename_i m e hk
      split at hs
      · rename_i ie he hc
        obtain ⟨rfl, rfl⟩ := pj hs
        exact r_indexA hT ho hd ht hk he hx hy hc hp k
      · cases hs
    · cases hs
  · cases hs

theorem stepAp_ok {s s' : S} {o : Oper} {p : Prop} {K : S → Prop} {args : Array Operand} {ats : Array TypeId} (hT : TOk P T) (ho : o.op = .call { callee := .builtin .append, args := args, argTypes := ats }) (hd : Oper.dok o s.m = true)
    (hs : stepAp T s o args.toList ats.toList = some (p, s')) (hp : p) (k : K s') : OpOK P o s K := by
  unfold stepAp at hs
  split at hs
  · rename_i x y t t2 hargs hats
    obtain rfl : args = #[x, y] := by cases args; simpa using hargs
    obtain rfl : ats = #[t, t2] := by cases ats; simpa using hats
    split at hs
    · rename_i i i2 c d ht ht2 hx hy
      split at hs
      · rename_i e e2 hk hk2
        split at hs
        · rename_i ie rows st rows2 he hb hr
          split at hs
          · rename_i hee
            subst hee
            obtain ⟨rfl, rfl⟩ := pj hs
            exact r_append hT ho hd ht hk he ht2 hk2 hx hy hb (fun id off len hc => by subst hc; exact hp.1) hr hp.2.1 hp.2.2.1 hp.2.2.2.1 hp.2.2.2.2 k
          · cases hs
        · cases hs
      · cases hs
    · cases hs
  · cases hs

theorem stepApF_ok {s s' : S} {o : Oper} {p : Prop} {K : S → Prop} {args : Array Operand} {ats : Array TypeId} {d : Nat} {r : MV} (hT : TOk P T) (ho : o.op = .call { callee := .builtin .append, args := args, argTypes := ats }) (hd : Oper.dok o s.m = true) (hdst : o.dst = some d)
    (hs : stepApF T s d r args.toList ats.toList = some (p, s')) (hp : p) (k : K s') : OpOK P o s K := by
  unfold stepApF at hs
  split at hs
  · rename_i x y t t2 hargs hats
    obtain rfl : args = #[x, y] := by cases args; simpa using hargs
    obtain rfl : ats = #[t, t2] := by cases ats; simpa using hats
    split at hs
    · rename_i i i2 c ht ht2 hx hy
      split at hs
      · rename_i e e2 hk hk2
        split at hs
        · rename_i ie rows2 he hr
          split at hs
          · rename_i hee
            subst hee
            obtain ⟨rfl, rfl⟩ := pj hs
            obtain ⟨h1, h2, h3, h4, rfl⟩ := hp
            exact r_appendF hT ho hd hdst ht hk he ht2 hk2 hx hy hr h1 h2 h3 h4 (by rw [hdst]; exact k)
          · cases hs
        · cases hs
      · cases hs
    · cases hs
  · cases hs

theorem stepCp_ok {s s' : S} {o : Oper} {p : Prop} {K : S → Prop} {args : Array Operand} {ats : Array TypeId} (hT : TOk P T) (ho : o.op = .call { callee := .builtin .copy, args := args, argTypes := ats }) (hd : Oper.dok o s.m = true)
    (hs : stepCp T s o args.toList ats.toList = some (p, s')) (hp : p) (k : K s') : OpOK P o s K := by
  unfold stepCp at hs
  split at hs
  · rename_i x y t t2 hargs hats
    obtain rfl : args = #[x, y] := by cases args; simpa using hargs
    obtain rfl : ats = #[t, t2] := by cases ats; simpa using hats
    split at hs
    · rename_i i id n c ht hx hy
      split at hs
      · rename_i e hk
        split at hs
        · rename_i ie rows rows2 he hlk hr
          obtain ⟨rfl, rfl⟩ := pj hs
          exact r_copy hT ho hd ht hk he hx hy hlk hp.1 hr hp.2.1 hp.2.2.1 hp.2.2.2.1 hp.2.2.2.2 k
        · cases hs
      · cases hs
    · cases hs
  · cases hs

theorem stepB_ok {s : S} {o : Oper} {p : Prop} {v : MV} {K : S → Prop} {op : BinOp} {t yt : TypeId} {x y : Operand} (hT : TOk P T) (ho : o.op = .binOp op t x y yt) (hd : Oper.dok o s.m = true)
    (hs : stepB P T s op t x y yt = some (p, v)) (hp : p) (k : K (s.put o.dst v)) : OpOK P o s K := by
  unfold stepB at hs
  split at hs
  · rename_i xs ys hx hy
    split at hs
    · rename_i i ht
      split at hs
      · rename_i l b hk hb
        split at hs
        · obtain ⟨rfl, rfl⟩ := pj hs
          exact r_eqs hT ho hd ht hk hx hy hb hp.h (.inl ⟨rfl, rfl⟩) k
        · obtain ⟨rfl, rfl⟩ := pj hs
          exact r_eqs hT ho hd ht hk hx hy hb hp.h (.inr ⟨rfl, rfl⟩) k
        · cases hs
      · cases hs
    · cases hs
  · rw [← ho] at hs
    exact stepV_ok hT hd hs hp k

theorem evO_int {s : S} {n : Int} : evO s (.const (.int .i64 n)) = some (.one (.sc (.int .i64 n))) := rfl
theorem stepF_ok {h : Option Hint} {s s' : S} {o : Oper} {p : Prop} {K : S → Prop} (hT : TOk P T) (hs : stepF P T h s o = some (p, s')) (hp : p) (k : K s') : OpOK P o s K := by
  unfold stepF at hs
  split at hs
  · cases hs
  · rename_i hd
    have hV : ∀ {op : Op}, o.op = op → (stepV T s op).map (fun q => (q.1, s.put o.dst q.2)) = some (p, s') → OpOK P o s K := fun {op} ho hv => by
      obtain ⟨q, hq, he⟩ := Option.map_eq_some_iff.1 hv
      obtain ⟨rfl, rfl⟩ := Prod.mk.inj he
      rw [← ho] at hq
      exact stepV_ok hT hd hq hp k
    split at hs
    · rename_i t x y ho
      exact stepIx_ok hT ho hd hs hp k
    · rename_i c ho
      obtain ⟨cal, args, ats⟩ := c
      simp only at hs
      split at hs
      · rename_i f
        split at hs
        · rename_i p' ds r hl
          obtain ⟨rfl, rfl⟩ := pj hs
          exact r_call ho hd hl hp.1 hp.2 k
        · rename_i p' ds g hl
          obtain ⟨rfl, rfl⟩ := pj hs
          exact r_call ho hd hl hp.1 hp.2 k
        · cases hs
      · split at hs
        · rename_i f p' ds r hf hl
          obtain ⟨rfl, rfl⟩ := pj hs
          exact r_callV ho (calleeF_ok hf) hd hl hp.1 hp.2 k
        · rename_i f p' ds g hf hl
          obtain ⟨rfl, rfl⟩ := pj hs
          exact r_callV ho (calleeF_ok hf) hd hl hp.1 hp.2 k
        · cases hs
      · split at hs
        · rename_i hdst
          exact stepApF_ok hT ho hd hdst hs hp k
        · exact stepAp_ok hT ho hd hs hp k
      · exact stepCp_ok hT ho hd hs hp k
      · exact hV ho hs
    · rename_i f ho
      obtain ⟨rfl, rfl⟩ := pj hs
      exact r_makeFunc ho hd k
    · rename_i t x ho
      split at hs
      · rename_i cs hcs
        obtain ⟨rfl, rfl⟩ := pj hs
        obtain ⟨v, hv, hm⟩ := Option.bind_eq_some_iff.1 hcs
        exact r_box ho hd hv hm k
      · cases hs
    · rename_i t ho
      split at hs
      · rename_i i ht
        obtain ⟨rfl, rfl⟩ := pj hs
        exact r_alloc hT ho hd ht k
      · cases hs
    · rename_i t x y ho
      split at hs
      · rename_i i id r f cs hdst ht hx hcs
        split at hs
        · rename_i ob hlk
          obtain ⟨q, hq, he⟩ := Option.map_eq_some_iff.1 hs
          obtain ⟨rfl, rfl⟩ := Prod.mk.inj he
          obtain ⟨v, hv, hm⟩ := Option.bind_eq_some_iff.1 hcs
          exact r_store hT ho hdst ht hx hv hm hlk hq hp.1 hp.2 k
        · cases hs
      · cases hs
    · rename_i t parts ho
      split at hs
      · rename_i i ht
        split at hs
        · rename_i l hk
          obtain ⟨q, hq, he⟩ := Option.map_eq_some_iff.1 hs
          obtain ⟨rfl, rfl⟩ := Prod.mk.inj he
          exact r_build hT ho hd ht hk hq hp.1 hp.2 k
        · rename_i m e hk
          split at hs
          · rename_i ie he'
            obtain ⟨q, hq, he⟩ := Option.map_eq_some_iff.1 hs
            obtain ⟨rfl, rfl⟩ := Prod.mk.inj he
            exact r_buildA hT ho hd ht hk he' hq hp k
          · cases hs
        · cases hs
      · cases hs
    · rename_i t x y ho
      split at hs
      · rename_i i kk n ht hx
        split at hs
        · rename_i e hk
          split at hs
          · rename_i ie he
            split at hs
            · rename_i hxy
              subst hxy
              obtain ⟨rfl, rfl⟩ := pj hs
              exact new_nfH (fun K k => r_make hT ho hd ht hk he hx hp k) k
            · cases hs
          · cases hs
        · cases hs
      · cases hs
    · rename_i t m m' ho
      split at hs
      · rename_i i ht
        split at hs
        · rename_i e hk
          split at hs
          · rename_i ie he
            split at hs
            · rename_i hxy
              subst hxy
              obtain ⟨rfl, rfl⟩ := pj hs
              exact new_nfH (fun K k => r_make hT ho hd ht hk he (evO_int (s := s)) hp k) k
            · cases hs
          · cases hs
        · cases hs
      · cases hs
    · rename_i t len parts ho
      split at hs
      · rename_i i ht
        split at hs
        · rename_i e hk
          split at hs
          · rename_i ie he
            split at hs
            · split at hs
              · rename_i hemp
                obtain ⟨rfl, rfl⟩ := pj hs
                obtain rfl : parts = #[] := by cases parts; simpa using hemp
                exact r_buildSlice0 hT ho hd ht hk he k
              · cases hs
            · split at hs
              · rename_i d hdst
                obtain ⟨q, hq, he'⟩ := Option.map_eq_some_iff.1 hs
                obtain ⟨rfl, rfl⟩ := Prod.mk.inj he'
                exact r_buildSliceF hT ho hd hdst ht hk he ⟨Nat.succ_pos _, hp.2.1⟩ hq hp.1 hp.2.2.1 hp.2.2.2 (by rw [hdst]; exact k)
              · obtain ⟨q, hq, he'⟩ := Option.map_eq_some_iff.1 hs
                obtain ⟨rfl, rfl⟩ := Prod.mk.inj he'
                exact r_buildSlice hT ho hd ht hk he ⟨Nat.succ_pos _, hp.2.1⟩ hq hp.1 hp.2.2.1 hp.2.2.2 k
          · cases hs
        · cases hs
      · cases hs
    · rename_i t x lo hi ho
      split at hs
      · rename_i i c ht hx
        split at hs
        · rename_i e hk
          split at hs
          · rename_i ie he
            split at hs
            · rename_i rows hc
              split at hs
              · rename_i l h hl hh
                obtain ⟨rfl, rfl⟩ := pj hs
                exact r_sliceF hT ho hd ht hk he hx hc hl hh hp.1 hp.2 k
              · cases hs
            · split at hs
              · rename_i id off len _
                split at hs
                · rename_i rows l h hlk hl hh
                  obtain ⟨rfl, rfl⟩ := pj hs
                  exact r_sliceR hT ho hd ht hk he hx hlk hl hh hp.1 hp.2 k
                · cases hs
              · cases hs
          · cases hs
        · cases hs
      · cases hs
    · rename_i op t x y yt ho
      obtain ⟨q, hq, he⟩ := Option.map_eq_some_iff.1 hs
      obtain ⟨rfl, rfl⟩ := Prod.mk.inj he
      exact stepB_ok hT ho hd hq hp k
    · rename_i t x ho
      obtain ⟨q, hq, he⟩ := Option.map_eq_some_iff.1 hs
      obtain ⟨rfl, rfl⟩ := Prod.mk.inj he
      obtain ⟨hp1, hp2⟩ := fixV_ok hp
      rw [← ho] at hq
      rcases hp2 with hp2 | hp2
      · rw [hp2] at k
        exact stepV_ok hT hd hq hp1 k
      · rw [hp2] at k
        exact put_nf (fun K k => stepV_ok hT hd hq hp1 k) k
    · exact hV rfl hs

end Mg

/- The abstract state logic, part 16: what a piece of code asks for, reckoned. No condition. -/
namespace Mg
open Go Go.RowKit
set_option linter.unusedVariables false

variable {P : Program} {T : Tab}

def hintOf (hs : List (Nat × Hint)) : Option Nat → Option Hint
  | none => none
  | some d => look hs d

/- FORCING: each state is brought into plain form before it is handed on. -/
def fN (n : Nat) (k : Nat → Prop) : Prop := match n with
  | 0 => k 0
  | n + 1 => k (n + 1)
def fU (v : Value) (k : Value → Prop) : Prop := match v with
  | .int i n => k (.int i n)
  | .bool b => k (.bool b)
  | .string b => k (.string b)
  | v => k v
def fC (c : MC) (k : MC → Prop) : Prop := match c with
  | .dead => k .dead
  | .sc v => fU v fun v => k (.sc v)
  | .nil => k .nil
  | .fz r => k (.fz r)
  | .own r => k (.own r)
  | .ref i o l => fN i fun i => k (.ref i o l)
  | .ptr i r o => fN i fun i => k (.ptr i r o)
  | .fptr r => k (.fptr r)
  | .ag r => k (.ag r)
  | .aptr r => k (.aptr r)
def fCs (cs : List MC) (k : List MC → Prop) : Prop := match cs with
  | [] => k []
  | c :: cs => fC c fun c => fCs cs fun cs => k (c :: cs)
def fV1 (v : MV) (k : MV → Prop) : Prop := match v with
  | .un => k .un
  | .one c => fC c fun c => k (.one c)
  | .agg cs => fCs cs fun cs => k (.agg cs)
  | .tup vs => k (.tup vs)
def fVs (vs : List MV) (k : List MV → Prop) : Prop := match vs with
  | [] => k []
  | v :: vs => fV1 v fun v => fVs vs fun vs => k (v :: vs)
def fV (v : MV) (k : MV → Prop) : Prop := match v with
  | .tup vs => fVs vs fun vs => k (.tup vs)
  | v => fV1 v k
def fOb (o : Ob) (k : Ob → Prop) : Prop := match o with
  | .box cs => fCs cs fun cs => k (.box cs)
  | .arr rows => k (.arr rows)
def fSt (st : List (Nat × Ob)) (k : List (Nat × Ob) → Prop) : Prop := match st with
  | [] => k []
  | (i, o) :: st => fN i fun i => fOb o fun o => fSt st fun st => k ((i, o) :: st)
def fOp (d : Option Nat) (k : Option Nat → Prop) : Prop := match d with
  | none => k none
  | some d => k (some d)
def fEnv (env : List (Nat × MV)) (k : List (Nat × MV) → Prop) : Prop := match env with
  | [] => k []
  | (d, v) :: tl => fN d fun d => fV v fun v => match tl with
    | [] => k [(d, v)]
    | x :: xs => k ((d, v) :: x :: xs)
def fS (s : S) (k : S → Prop) : Prop := match s with
  | ⟨m, n, env, st⟩ => fN m fun m => fN n fun n => fEnv env fun env => fSt st fun st => k ⟨m, n, env, st⟩

theorem fN_eq (n : Nat) (k : Nat → Prop) : fN n k = k n := by cases n <;> rfl
theorem fU_eq (v : Value) (k : Value → Prop) : fU v k = k v := by cases v <;> rfl
theorem fC_eq (c : MC) (k : MC → Prop) : fC c k = k c := by cases c <;> simp [fC, fN_eq, fU_eq]
theorem fCs_eq : ∀ (cs : List MC) (k : List MC → Prop), fCs cs k = k cs
  | [], k => rfl
  | c :: cs, k => by simp [fCs, fC_eq, fCs_eq cs]
theorem fV1_eq (v : MV) (k : MV → Prop) : fV1 v k = k v := by cases v <;> simp [fV1, fC_eq, fCs_eq]
theorem fVs_eq : ∀ (vs : List MV) (k : List MV → Prop), fVs vs k = k vs
  | [], k => rfl
  | v :: vs, k => by simp [fVs, fV1_eq, fVs_eq vs]
theorem fV_eq (v : MV) (k : MV → Prop) : fV v k = k v := by cases v <;> simp [fV, fV1_eq, fVs_eq]
theorem fOb_eq (o : Ob) (k : Ob → Prop) : fOb o k = k o := by cases o <;> simp [fOb, fCs_eq]
theorem fSt_eq : ∀ (st : List (Nat × Ob)) (k : List (Nat × Ob) → Prop), fSt st k = k st
  | [], k => rfl
  | (i, o) :: st, k => by simp [fSt, fN_eq, fOb_eq, fSt_eq st]
theorem fEnv_eq (env : List (Nat × MV)) (k : List (Nat × MV) → Prop) : fEnv env k = k env := by
  cases env with
  | nil => rfl
  | cons x tl =>
    obtain ⟨d, v⟩ := x
    simp only [fEnv, fN_eq, fV_eq]
    cases tl <;> rfl
theorem fS_eq (s : S) (k : S → Prop) : fS s k = k s := by
  obtain ⟨m, n, env, st⟩ := s
  simp only [fS, fN_eq, fEnv_eq, fSt_eq]

/-- A side condition. -/
structure Side (p : Prop) : Prop where
  h : p

/-- What a call asks for that hands objects over. -/
def conGoal (P : Program) (s : S) (o : Oper) (K : S → Prop) : Option Hint → Op → Option Prop
  | some (.con md β cs fs C), .call c => match c.callee with
    | .value (.func f) => match passF s fs, passO md s (β ++ cs) fs (β ++ cs), passA md s (β ++ cs) fs c.args.toList with
      | some q1, some (q2, os), some ds => some (Side q1 ∧ Side q2 ∧ Chk (Oper.dok o s.m && decide ((β ++ cs) ++ fs).Nodup) ∧ Side (Con P f ds os β.length (C ds os).p (C ds os).r (C ds os).os) ∧ Side (∀ d, (C ds os).p d → likeL (os.take β.length) ((C ds os).os d)) ∧ Side (∀ d, (C ds os).p d → fixL md ((C ds os).os d)) ∧
          ∀ d, (C ds os).p d → fS ((conS md ((s.dels fs).dels cs) β ((C ds os).os d)).put o.dst (backV md s.n β ((C ds os).r d))) K)
      | _, _, _ => some False
    | _ => none
  | _, _ => none
theorem conGoal_ok {s : S} {o : Oper} {K : S → Prop} {h : Option Hint} {q : Prop} (hg : conGoal P s o K h o.op = some q) (hq : q) : OpOK P o s K := by
  generalize ho : o.op = op at hg
  unfold conGoal at hg
  split at hg
  · rename_i md β cs fs C c
    split at hg
    · rename_i f hc
      split at hg
      · rename_i q1 q2 os ds h1 h2 h3
        obtain rfl := Option.some.inj hg
        obtain ⟨⟨g1⟩, ⟨g2⟩, ⟨g3⟩, ⟨g4⟩, ⟨g5⟩, ⟨g6⟩, g7⟩ := hq
        simp only [Bool.and_eq_true, decide_eq_true_eq] at g3
        obtain ⟨cc, ca, ct⟩ := c
        subst hc
        exact r_con ho g3.1 g3.2 h1 g1 h2 g2 h3 g4 g5 g6 fun d hd => by have := g7 d hd; rwa [fS_eq] at this
      · obtain rfl := Option.some.inj hg; exact hq.elim
    · cases hg
  · cases hg

def vcStep (P : Program) (T : Tab) (hs : List (Nat × Hint)) (s : S) (o : Oper) (K : S → Prop) : Prop :=
  match conGoal P s o K (hintOf hs o.dst) o.op with
  | some q => q
  | none => match stepF P T (hintOf hs o.dst) s o with
    | none => False
    | some (p, s') => Side p ∧ fS s' K

/-- A guard's slot, said outright. -/
def S.lit (s : S) (all : Array Oper) (g : Nat) (b : Bool) : S := match (all[g]?).bind (·.dst) with
  | some d => s.put (some d) (.one (.sc (.bool b)))
  | none => s
theorem S.lit_lk {s : S} {all : Array Oper} {g : Nat} {b : Bool} (h : guardV all s g = some b) : Lk (S.lit s all g b) s := by
  unfold S.lit
  unfold guardV at h
  obtain ⟨d, hd, hm⟩ := Option.bind_eq_some_iff.1 h
  rw [hd]
  refine ⟨rfl, rfl, rfl, fun t => ?_⟩
  show look ((d, _) :: s.env) t = _
  rw [look_cons]
  split
  · rename_i e
    subst e
    split at hm
    · rename_i b' he
      obtain rfl := Option.some.inj hm
      exact he.symm
    · cases hm
  · rfl

def vcOps (P : Program) (T : Tab) (hs : List (Nat × Hint)) (all : Array Oper) : List Oper → S → (S → Prop) → Prop
  | [], s, K => K s
  | o :: rest, s, K => match o.guard with
    | none => vcStep P T hs s o fun s' => vcOps P T hs all rest s' K
    | some (g, want) => match guardV all s g with
      | none => Chk (guardU all s g) ∧ Chk (Oper.dok o s.m) ∧ fS (s.put o.dst (.tup [])) fun s' => vcOps P T hs all rest s' K
      | some b => (b = want → fS (S.lit s all g want) fun s => vcStep P T hs s o fun s' => vcOps P T hs all rest s' K) ∧
          (b = !want → fS (S.lit s all g !want) fun s => Chk (Oper.dok o s.m) ∧ fS (s.put o.dst (.tup [])) fun s' => vcOps P T hs all rest s' K)

theorem vcStep_ok {hs : List (Nat × Hint)} {s : S} {o : Oper} {K : S → Prop} (hT : TOk P T) (h : vcStep P T hs s o K) : OpOK P o s K := by
  unfold vcStep at h
  split at h
  · rename_i q hg
    exact conGoal_ok hg h
  split at h
  · exact h.elim
  · rename_i p s' hq
    rw [fS_eq] at h
    exact stepF_ok hT hq h.1.h h.2

theorem OpOK.mono {o : Oper} {s : S} {K K' : S → Prop} (h : OpOK P o s K) (hk : ∀ s, K s → K' s) : OpOK P o s K' := fun w0 wr A a w Q X hr k => h w0 wr A a w Q X hr fun s' a' w' h1 h2 => k s' a' w' h1 (hk s' h2)

theorem vcOps_ok {hs : List (Nat × Hint)} {all : Array Oper} (hT : TOk P T) : ∀ (l : List Oper) (s : S) (K : S → Prop), vcOps P T hs all l s K → Seq P all l s K
  | [], s, K, h => h
  | o :: rest, s, K, h => by
    simp only [vcOps] at h
    simp only [Seq]
    cases hg : o.guard with
    | none =>
      rw [hg] at h
      exact (vcStep_ok hT h).mono fun s' h' => vcOps_ok hT rest s' K h'
    | some q =>
      obtain ⟨g, want⟩ := q
      rw [hg] at h
      simp only at h ⊢
      cases hb : guardV all s g with
      | none =>
        rw [hb] at h
        obtain ⟨⟨h1⟩, ⟨h2⟩, h3⟩ := h
        rw [fS_eq] at h3
        exact .inr ⟨h1, h2, vcOps_ok hT rest _ K h3⟩
      | some b =>
        rw [hb] at h
        by_cases hw : b = want
        · have h1 := h.1 hw
          rw [fS_eq] at h1
          refine .inl ⟨b, _, rfl, S.lit_lk (hw ▸ hb), ?_⟩
          rw [if_pos hw]
          exact (vcStep_ok hT h1).mono fun s' h' => vcOps_ok hT rest s' K h'
        · have hw' : b = !want := by cases b <;> cases want <;> simp_all
          have h1 := h.2 hw'
          rw [fS_eq] at h1
          obtain ⟨⟨h1⟩, h2⟩ := h1
          rw [fS_eq] at h2
          refine .inl ⟨b, _, rfl, S.lit_lk (hw' ▸ hb), ?_⟩
          rw [if_neg hw]
          exact ⟨h1, vcOps_ok hT rest _ K h2⟩

/-- The end, reckoned. -/
def endF (T : Tab) (sh : Bool) (fn : Func) (r : MV) (s : S) : Prop :=
  match outR T sh s fn.results.toList r with
  | some (p, os, fs) => Side p ∧ Chk (decide os.Nodup && os.all fun i => !fs.contains i)
  | none => False

theorem endF_ok {sh : Bool} {fn : Func} {r : MV} {s : S} (h : endF T sh fn r s) : Ends T sh fn r s := by
  unfold endF at h
  split at h
  · rename_i p os fs ho
    obtain ⟨h1, ⟨h2⟩⟩ := h
    simp only [Bool.and_eq_true, decide_eq_true_eq, List.all_eq_true, Bool.not_eq_true', List.contains_eq_mem, decide_eq_false_iff_not] at h2
    exact ⟨p, os, fs, ho, h1.h, h2.1, h2.2⟩
  · exact h.elim

def endE (T : Tab) (sh : Bool) (fn : Func) (r : MV) : Exit → S → Prop
  | .normal, s => endF T sh fn r s
  | .ret, s => endF T sh fn r s
  | _, _ => False

end Mg

/- The abstract state logic, part 17: what an argument that can be read reads as. No condition. -/
namespace Mg
open Go Go.RowKit
set_option linter.unusedVariables false

def fitL (F : Nat → List MC → Prop) : List Nat → List MC → Prop
  | [], cs => cs = []
  | t :: ts, cs => ∃ a b, cs = a ++ b ∧ F t a ∧ fitL F ts b

/-- Cells of a type. -/
def fit (T : Tab) : Nat → Nat → List MC → Prop
  | 0, _, _ => False
  | n + 1, t, cs => match T t with
    | none => False
    | some i => match i.k with
      | .bool => ∃ b, cs = [.sc (.bool b)]
      | .int k => ∃ m, cs = [.sc (.int k m)] ∧ k.min ≤ m ∧ m ≤ k.max
      | .str => ∃ s : ByteArray, cs = [.sc (.string s)] ∧ s.size ≤ maxLen
      | .slice e => ∃ rows, cs = [.fz rows] ∧ rows.length ≤ maxLen ∧ ∀ r ∈ rows, fit T n e r
      | .struct l => fitL (fit T n) (l.map (·.2)) cs
      | .arr m e => fitL (fit T n) (List.replicate m e) cs
      | _ => False

def lay (T : Tab) : Nat → List (Nat × Nat) → Nat → Bool
  | off, [], size => off == size
  | off, (o, t) :: l, size => o == off && match T t with
    | some i => lay T (off + i.size) l size
    | none => false
def TI.lay (T : Tab) (i : TI) : Bool := match i.k with
  | .bool => i.size == 1
  | .int _ => i.size == 1
  | .str => i.size == 1
  | .slice e => i.size == 1 && match T e with
    | some ie => Nat.blt 0 ie.size
    | none => false
  | .struct l => Mg.lay T 0 l i.size
  | .arr m e => match T e with
    | some ie => i.size == m * ie.size
    | none => false
  | _ => false
def LOk (T : Tab) : Prop := ∀ t i, T t = some i → i.lay T = true

variable {P : Program} {T : Tab}

/-- What a value's cells read as. -/
def Rd (w : World) (cs : List MC) (vs : List Value) : Prop := cs.length = vs.length ∧ ∀ (j : Nat) (c : MC), cs[j]? = some c → ∃ u : Value, vs[j]? = some u ∧ RF w (fun b => b < w.heap.size) c u

theorem Rd.one {w : World} {c : MC} {v : Value} (h : RF w (fun b => b < w.heap.size) c v) : Rd w [c] [v] := ⟨rfl, fun j x hj => by
  cases j with
  | zero => obtain rfl : c = x := by simpa using hj
            exact ⟨v, rfl, h⟩
  | succ j => simp at hj⟩
theorem Rd.append {w : World} {a b : List MC} {u v : List Value} (h1 : Rd w a u) (h2 : Rd w b v) : Rd w (a ++ b) (u ++ v) := ⟨by simp [h1.1, h2.1], fun j c hj => by
  rw [List.getElem?_append] at hj ⊢
  rw [h1.1] at hj
  by_cases hlt : j < u.length
  · rw [if_pos hlt] at hj ⊢; exact h1.2 j c hj
  · rw [if_neg hlt] at hj ⊢; exact h2.2 _ c hj⟩

theorem exists_list {α : Type} {p : Nat → α → Prop} : ∀ n : Nat, (∀ i, i < n → ∃ r, p i r) → ∃ l : List α, l.length = n ∧ ∀ i r, l[i]? = some r → p i r
  | 0, _ => ⟨[], rfl, fun i r h => by simp at h⟩
  | n + 1, h => by
    obtain ⟨l, hl, hp⟩ := exists_list n fun i hi => h i (Nat.lt_succ_of_lt hi)
    obtain ⟨r, hr⟩ := h n (Nat.lt_succ_self n)
    refine ⟨l ++ [r], by simp [hl], fun i x hx => ?_⟩
    rw [List.getElem?_append] at hx
    by_cases hlt : i < l.length
    · rw [if_pos hlt] at hx; exact hp i x hx
    · rw [if_neg hlt] at hx
      have : i - l.length = 0 := by
        rcases Nat.eq_zero_or_pos (i - l.length) with h0 | h0
        · exact h0
        · obtain ⟨m, hm⟩ : ∃ m, i - l.length = m + 1 := ⟨i - l.length - 1, by omega⟩
          rw [hm] at hx; simp at hx
      rw [this] at hx
      obtain rfl : r = x := by simpa using hx
      obtain rfl : i = n := by omega
      exact hr

section
variable {H : Type} {enc : TypeId × Value → H} {w : World} {sp : Nat → Bool} {held : Bool}

theorem fields_ok (hT : TOk P T) {n : Nat} (ih : ∀ t i vs x, T t = some i → DataW.trod enc P w 0 sp held n t vs = some x → ∃ cs, fit T n t cs ∧ Rd w cs vs) (vs : List Value) :
    ∀ (l : List (Nat × Nat)) (off size : Nat), lay T off l size = true → vs.length = size → off ≤ size →
      (∀ q ∈ l, ∃ x, DataW.trod enc P w 0 sp held n q.2 ((vs.drop q.1).take (P.cellsOf q.2)) = some x) → ∃ cs, fitL (fit T n) (l.map (·.2)) cs ∧ Rd w cs (vs.drop off)
  | [], off, size, hl, hv, ho, h => by
    have : off = size := by simpa [lay] using hl
    refine ⟨[], rfl, ?_, fun j c hj => by simp at hj⟩
    simp; omega
  | (o, t) :: l, off, size, hl, hv, ho, h => by
    simp only [lay, Bool.and_eq_true, beq_iff_eq] at hl
    obtain ⟨rfl, hl⟩ := hl
    cases ht : T t with
    | none => rw [ht] at hl; cases hl
    | some i =>
      rw [ht] at hl
      simp only at hl
      obtain ⟨x, hx⟩ := h (o, t) List.mem_cons_self
      have hc : P.cellsOf t = i.size := by
        obtain ⟨f, hf, h1, _⟩ := hT.info ht
        simp [Program.cellsOf, hf, h1]
      simp only [hc] at hx
      obtain ⟨a, ha, hra⟩ := ih t i _ x ht hx
      have hle : o + i.size ≤ size := by
        clear ih h hx ha hra
        suffices ∀ (l : List (Nat × Nat)) (off : Nat), lay T off l size = true → off ≤ size from this l _ hl
        intro l
        induction l with
        | nil => intro off h; simp [lay] at h; omega
        | cons q l ih =>
          intro off h
          simp only [lay, Bool.and_eq_true, beq_iff_eq] at h
          obtain ⟨rfl, h⟩ := h
          split at h
          · have := ih _ h; omega
          · cases h
      obtain ⟨b, hb, hrb⟩ := fields_ok hT ih vs l (o + i.size) size hl hv hle (fun q hq => h q (List.mem_cons_of_mem _ hq))
      refine ⟨a ++ b, ⟨a, b, rfl, ha, hb⟩, ?_⟩
      have e : vs.drop o = (vs.drop o).take i.size ++ vs.drop (o + i.size) := by
        rw [← List.drop_drop, List.take_append_drop]
      rw [e]
      exact hra.append hrb

theorem elems_ok (hT : TOk P T) {n : Nat} {e : Nat} {ie : TI} (he : T e = some ie) (ih : ∀ t i vs x, T t = some i → DataW.trod enc P w 0 sp held n t vs = some x → ∃ cs, fit T n t cs ∧ Rd w cs vs) (vs : List Value) :
    ∀ (k m : Nat), vs.length = (k + m) * ie.size → (∀ i, i < k + m → ∃ x, DataW.trod enc P w 0 sp held n e ((vs.drop (i * ie.size)).take ie.size) = some x) →
      ∃ cs, fitL (fit T n) (List.replicate m e) cs ∧ Rd w cs (vs.drop (k * ie.size))
  | k, 0, hv, h => ⟨[], rfl, by simp; simp at hv; omega, fun j c hj => by simp at hj⟩
  | k, m + 1, hv, h => by
    obtain ⟨x, hx⟩ := h k (by omega)
    obtain ⟨a, ha, hra⟩ := ih e ie _ x he hx
    obtain ⟨b, hb, hrb⟩ := elems_ok hT he ih vs (k + 1) m (by rw [hv]; congr 1; omega) (fun i hi => h i (by omega))
    refine ⟨a ++ b, ⟨a, b, rfl, ha, hb⟩, ?_⟩
    have e : vs.drop (k * ie.size) = (vs.drop (k * ie.size)).take ie.size ++ vs.drop ((k + 1) * ie.size) := by
      rw [Nat.add_mul, Nat.one_mul, ← List.drop_drop, List.take_append_drop]
    rw [e]
    exact hra.append hrb

theorem und_of {t : Nat} {i : TI} (hT : TOk P T) (ht : T t = some i) : i.k.ok P (P.underlying t) = true := by
  obtain ⟨f, _, _, _, h3, _⟩ := hT.info ht; exact h3

/-- READING: what can be read reads as cells of its type. -/
theorem read_ok (hT : TOk P T) (hL : LOk T) : ∀ (n : Nat) (t : Nat) (i : TI) (vs : List Value) (x : DataW H × List MemPlace), T t = some i → DataW.trod enc P w 0 sp held n t vs = some x → ∃ cs, fit T n t cs ∧ Rd w cs vs
  | 0, t, i, vs, x, ht, h => by simp [DataW.trod] at h
  | n + 1, t, i, vs, x, ht, h => by
    have hu := und_of hT ht
    have hl := hL t i ht
    have hsz : P.cellsOf t = i.size := by
      obtain ⟨f, hf, h1, _⟩ := hT.info ht
      simp [Program.cellsOf, hf, h1]
    unfold fit
    rw [ht]
    simp only
    cases hk : i.k with
    | bool =>
      rw [hk] at hu
      have hu' : P.underlying t = some .bool := by cases hq : P.underlying t with
        | none => rw [hq] at hu; cases hu
        | some d => rw [hq] at hu; cases d <;> simp [TK.ok] at hu; rfl
      obtain ⟨b, rfl, rfl⟩ := DataW.trod_bool hu' h
      exact ⟨[.sc (.bool b)], ⟨b, rfl⟩, .one (.sc _ rfl)⟩
    | int k =>
      rw [hk] at hu
      have hu' : P.underlying t = some (.int k) := by cases hq : P.underlying t with
        | none => rw [hq] at hu; cases hu
        | some d => rw [hq] at hu; cases d <;> simp [TK.ok] at hu; subst hu; rfl
      obtain ⟨m, rfl, rfl, hw⟩ := DataW.trod_int hu' h
      have hw' : k.min ≤ m ∧ m ≤ k.max := by simpa [Lit.wf] using hw
      exact ⟨[.sc (.int k m)], ⟨m, rfl, hw'⟩, .one (.sc _ rfl)⟩
    | str =>
      rw [hk] at hu
      have hu' : P.underlying t = some .string := by cases hq : P.underlying t with
        | none => rw [hq] at hu; cases hu
        | some d => rw [hq] at hu; cases d <;> simp [TK.ok] at hu; rfl
      obtain ⟨s, rfl, rfl, hs⟩ := DataW.trod_string hu' h
      exact ⟨[.sc (.string s)], ⟨s, rfl, hs⟩, .one (.sc _ rfl)⟩
    | slice e =>
      have hu' := hT.und_slice ht hk
      simp only [TI.lay, hk, Bool.and_eq_true, beq_iff_eq] at hl
      cases he : T e with
      | none => rw [he] at hl; cases hl.2
      | some ie =>
        rw [he] at hl
        have hpos : 0 < ie.size := by simpa using hl.2
        have hce : P.cellsOf e = ie.size := by
          obtain ⟨f, hf, h1, _⟩ := hT.info he
          simp [Program.cellsOf, hf, h1]
        rcases DataW.trod_slice hu' h with ⟨rfl, rfl⟩ | ⟨a, len, cap, elems, rest, m, hm, rfl, rfl, _, hlc, hcm, hlen, hel, _⟩
        · exact ⟨[.fz []], ⟨[], rfl, by simp, fun r hr => by simp at hr⟩, .one (.nilz _ _)⟩
        · obtain rfl : n = m := by omega
          rw [hce] at hel
          have hsp : 0 < len → a.block < w.heap.size ∧ a.spot = none := fun h0 => by
            have h1 := hel 0 h0
            rw [List.getElem?_eq_getElem (by omega)] at h1
            obtain ⟨us, hus, _⟩ := Option.bind_eq_some_iff.1 h1
            obtain ⟨_, hlu, hcell⟩ := World.cells?_some hus
            have h2 := hcell 0 hpos
            rw [List.getElem?_eq_getElem (by omega)] at h2
            simp only [Nat.zero_mul, Addr.add, if_true] at h2
            unfold World.cell? at h2
            split at h2
            · rename_i c el fr hh
              refine ⟨?_, ?_⟩
              · rcases Nat.lt_or_ge a.block w.heap.size with g | g
                · exact g
                · rw [Array.getElem?_eq_none g] at hh; cases hh
              · cases hs : a.spot with
                | none => rfl
                | some k => simp [hs] at h2
            · cases h2
          have hrow : ∀ i, i < len → ∃ r, (fit T n e r ∧ r.length = ie.size) ∧ ∀ j c, r[j]? = some c → ∃ u, w.cell? ⟨a.block, a.off + (i * ie.size + j), none⟩ = some u ∧ RF w (fun b => b < w.heap.size) c u := fun i hi => by
            obtain ⟨y, hy⟩ : ∃ y, elems[i]? = some y := ⟨elems[i]'(by omega), List.getElem?_eq_getElem _⟩
            have h1 := hel i hi
            rw [hy] at h1
            obtain ⟨us, hus, hty⟩ := Option.bind_eq_some_iff.1 h1
            obtain ⟨_, hlu, hcell⟩ := World.cells?_some hus
            obtain ⟨r, hf, hr⟩ := read_ok hT hL n e ie us y he hty
            refine ⟨r, ⟨hf, by rw [hr.1, hlu]⟩, fun j c hj => ?_⟩
            obtain ⟨u, hu1, hru⟩ := hr.2 j c hj
            have hjl : j < ie.size := by
              rcases Nat.lt_or_ge j us.length with g | g
              · omega
              · rw [List.getElem?_eq_none (by omega)] at hu1; cases hu1
            refine ⟨u, ?_, hru⟩
            rw [← hu1, ← hcell j hjl]
            congr 1
            obtain ⟨ab, ao, as⟩ := a
            obtain rfl : as = none := (hsp (by omega)).2
            simp only [Addr.add]
            split <;> split <;> simp_all <;> omega
          obtain ⟨rows, hrl, hrows⟩ := exists_list len hrow
          refine ⟨[.fz rows], ⟨rows, rfl, by omega, fun r hr => ?_⟩, .one ?_⟩
          · obtain ⟨i, hi⟩ := List.getElem?_of_mem hr; exact (hrows i r hi).1.1
          · rw [← hrl]
            refine RF.mk (by omega) fun hne => ?_
            have h0 : 0 < len := by rw [← hrl]; exact List.length_pos_iff.2 hne
            obtain ⟨ab, ao, as⟩ := a
            obtain ⟨hb, rfl⟩ : ab < w.heap.size ∧ as = none := hsp h0
            exact ⟨ab, ao, ie.size, rfl, hb, fun r hr => by
              obtain ⟨i, hi⟩ := List.getElem?_of_mem hr; exact (hrows i r hi).1.2, fun i j r c hi hj => (hrows i r hi).2 j c hj⟩
    | arr m e =>
      have hu' := hT.und_arr ht hk
      simp only [TI.lay, hk] at hl
      cases he : T e with
      | none => rw [he] at hl; cases hl
      | some ie =>
        rw [he] at hl
        have hce : P.cellsOf e = ie.size := by
          obtain ⟨f, hf, h1, _⟩ := hT.info he
          simp [Program.cellsOf, hf, h1]
        obtain ⟨xs, m', hm, rfl, hlen, hxl, hel⟩ := DataW.trod_array hu' h
        obtain rfl : n = m' := by omega
        have hsz' : i.size = m * ie.size := by simpa using hl
        obtain ⟨cs, h1, h2⟩ := elems_ok hT he (fun t i vs x h1 h2 => read_ok hT hL n t i vs x h1 h2) vs 0 m (by rw [hlen, hsz, hsz', Nat.zero_add]) (fun i hi => by
          have := hel i (by omega)
          rw [hce, List.getElem?_eq_getElem (by omega)] at this
          exact ⟨_, this⟩)
        exact ⟨cs, h1, by simpa using h2⟩
    | struct l =>
      simp only [TI.lay, hk] at hl
      rw [hk] at hu
      obtain ⟨fs, hu', hfs⟩ : ∃ fs : Array Field, P.underlying t = some (.struct fs) ∧ fs.toList.map (fun f => (f.offset, f.type)) = l := by
        cases hq : P.underlying t with
        | none => rw [hq] at hu; cases hu
        | some d =>
          rw [hq] at hu
          cases d <;> simp [TK.ok] at hu
          exact ⟨_, rfl, hu.1⟩
      obtain ⟨xs, m', hm, rfl, hlen, hxl, hel⟩ := DataW.trod_struct hu' h
      obtain rfl : n = m' := by omega
      obtain ⟨cs, h1, h2⟩ := fields_ok hT (fun t i vs x h1 h2 => read_ok hT hL n t i vs x h1 h2) vs l 0 i.size hl (by rw [hlen, hsz]) (Nat.zero_le _) (fun q hq => by
        rw [← hfs] at hq
        obtain ⟨f, hf, rfl⟩ := List.mem_map.1 hq
        obtain ⟨i', hi'⟩ := List.getElem?_of_mem hf
        have hi2 : fs[i']? = some f := by simpa using hi'
        have := hel i' f hi2
        have hlt : i' < fs.size := by
          rcases Nat.lt_or_ge i' fs.size with g | g
          · exact g
          · rw [Array.getElem?_eq_none g] at hi2; cases hi2
        rw [List.getElem?_eq_getElem (by omega)] at this
        exact ⟨_, this⟩)
      exact ⟨cs, h1, by simpa using h2⟩
    | ptr => simp [TI.lay, hk] at hl
    | other => simp [TI.lay, hk] at hl

/-- An argument of a struct's, array's type. -/
theorem FV_agg (hT : TOk P T) (hL : LOk T) {t : Nat} {i : TI} {arr : Array Value} {d : DataW H} {ps : List MemPlace} (ht : T t = some i) (h : DataW.Trod enc P w 0 sp held t (.agg arr) d ps) :
    ∃ n cs, fit T n t cs ∧ FV w (fun b => b < w.heap.size) (.agg cs) (.agg arr) := by
  obtain ⟨n, hn⟩ := h
  obtain ⟨cs, h1, h2, h3⟩ := read_ok hT hL n t i _ _ ht hn
  exact ⟨n, cs, h1, arr, rfl, by simpa [Value.cells] using h2.symm, fun j c hj => by
    obtain ⟨u, hu, hr⟩ := h3 j c hj; exact ⟨u, by simpa [Value.cells] using hu, hr⟩⟩
/-- An argument of one cell. -/
theorem FV_one (hT : TOk P T) (hL : LOk T) {t : Nat} {i : TI} {v : Value} {d : DataW H} {ps : List MemPlace} (ht : T t = some i) (hs : i.size = 1) (hv : v.cells = #[v]) (h : DataW.Trod enc P w 0 sp held t v d ps) :
    ∃ n c, fit T n t [c] ∧ FV w (fun b => b < w.heap.size) (.one c) v := by
  obtain ⟨n, hn⟩ := h
  rw [hv] at hn
  obtain ⟨cs, h1, h2, h3⟩ := read_ok hT hL n t i _ _ ht hn
  obtain ⟨c, rfl⟩ := List.length_eq_one_iff.1 h2
  obtain ⟨u, hu, hr⟩ := h3 0 c rfl
  obtain rfl : v = u := by simpa using hu
  exact ⟨n, c, h1, hr⟩
end
end Mg
