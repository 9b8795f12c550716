/- The abstract state logic, part 15: every operation's step, and regions, reckoned. No condition. -/
import Derived.Test.YthflichlfpmenaaGreatMg14
import Derived.Test.YthflichlfpmenaaGreatMg21
namespace Mg
open Go Go.RowKit
set_option linter.unusedVariables false

variable {P : Program} {T : Tab}

def stepIx (T : Tab) (h : Option Hint) (s : S) (o : Oper) (t : TypeId) (x y : Operand) : Option (Prop × S) :=
  match T t, evO s x, evO s y with
  | some i, some (.one c), some (.one (.sc (.int k n))) => match i.k with
    | .slice e => match T e with
      | some ie => match fzRows c, rowH h n with
        | some rows, some (.row row) => some (0 ≤ n ∧ rows[n.toNat]? = some row ∧ row.length = ie.size, s.put o.dst (.one (fzPtr c row)))
        | some _, _ => none
        | none, h => match c with
          | .ref id off len => match look s.st id, h with
            | some (.arr rows), some (.row row) => some ((0 ≤ n ∧ n < len) ∧ rows[off + n.toNat]? = some row ∧ row.length = ie.size, s.put o.dst (.one (.ptr id (off + n.toNat) 0)))
            | some (.arr rows), _ => some ((0 ≤ n ∧ n < len) ∧ off + n.toNat < rows.length ∧ (rows.getD (off + n.toNat) []).length = ie.size, s.put o.dst (.one (.ptr id (off + n.toNat) 0)))
            | _, _ => none
          | _ => none
      | none => none
    | .arr m e => match T e, okP (look s.st) c with
      | some ie, true => some (0 ≤ n ∧ n < m, s.put o.dst (.one (ptrAdd c (n.toNat * ie.size))))
      | _, _ => none
    | _ => none
  | _, _, _ => none

def stepAp (T : Tab) (s : S) (o : Oper) : List Operand → List TypeId → Option (Prop × S)
  | [x, y], [t, t2] => match T t, T t2, evO s x, evO s y with
    | some i, some i2, some (.one c), some (.one d) => match i.k, i2.k with
      | .slice e, .slice e2 => match T e, base? s c, rowsOf s d with
        | some ie, some (rows, st), some rows2 => if e = e2 then
            some ((match c with | .ref _ _ len => len = rows.length | _ => True) ∧ (∀ r ∈ rows, r.length = ie.size) ∧ (∀ r ∈ rows2, r.length = ie.size) ∧ (rows.length + rows2.length) * ie.bytes ≤ 140737488355328 ∧ rows.length + rows2.length ≤ 140737488355328,
              (s.app (rows ++ rows2) st).put o.dst (.one (.ref s.n 0 (rows.length + rows2.length)))) else none
        | _, _, _ => none
      | _, _ => none
    | _, _, _, _ => none
  | _, _ => none

def stepB (P : Program) (T : Tab) (s : S) (op : BinOp) (t : TypeId) (x y : Operand) (yt : TypeId) : Option (Prop × MV) :=
  match evO s x, evO s y with
  | some (.agg xs), some (.agg ys) => match T t with
    | some i => match i.k, eqT T 8 t xs ys with
      | .struct _, some b => match op with
        | .eql => some (Chk (eqOk P 8 t && !P.eqGuardType P.depth t), .one (.sc (.bool b)))
        | .neq => some (Chk (eqOk P 8 t && !P.eqGuardType P.depth t), .one (.sc (.bool !b)))
        | _ => none
      | _, _ => none
    | none => none
  | _, _ => stepV T s (.binOp op t x y yt)

/-- One operation. -/
def stepF (P : Program) (T : Tab) (h : Option Hint) (s : S) (o : Oper) : Option (Prop × S) :=
  match Oper.dok o s.m with
  | false => none
  | true => match o.op with
    | .indexAddr t x y => stepIx T h s o t x y
    | .call c => match c.callee with
      | .value (.func f) => match lend s c.args.toList, h with
        | some (p, ds), some (.res r) => some (p ∧ Pure P false f ds r, (adV s r).2.put o.dst (adV s r).1)
        | some (p, ds), some (.resf g) => some (p ∧ Pure P false f ds (g ds), (adV s (g ds)).2.put o.dst (adV s (g ds)).1)
        | _, _ => none
      | .value (.tmp t) => match calleeF s t, lend s c.args.toList, h with
        | some f, some (p, ds), some (.res r) => some (p ∧ Pure P false f ds r, (adV s r).2.put o.dst (adV s r).1)
        | some f, some (p, ds), some (.resf g) => some (p ∧ Pure P false f ds (g ds), (adV s (g ds)).2.put o.dst (adV s (g ds)).1)
        | _, _, _ => none
      | .builtin .append => stepAp T s o c.args.toList c.argTypes.toList
      | _ => (stepV T s (.call c)).map fun q => (q.1, s.put o.dst q.2)
    | .makeFunc f ⟨[]⟩ ⟨[]⟩ => some (True, s.put o.dst (.one (.sc (.func f #[] #[]))))
    | .box t x => match (evO s x).bind mvCells with
      | some cs => some (True, (s.new (.box cs)).put o.dst (.one (.ptr s.n 0 0)))
      | none => none
    | .alloc t => match T t with
      | some i => some (True, (s.new (.box (i.z.map ZC.mc))).put o.dst (.one (.ptr s.n 0 0)))
      | none => none
    | .store t x y => match o.dst, T t, evO s x, (evO s y).bind mvCells with
      | none, some i, some (.one (.ptr id r f)), some cs => match look s.st id with
        | some ob => (obPut ob r f cs).map fun q => (q.1 ∧ cs.length = i.size, s.set id q.2)
        | none => none
      | _, _, _, _ => none
    | .build t parts => match T t with
      | some i => match i.k with
        | .struct l => (fillM s T (fun j => (l[j]?).bind fun q => (T q.2).map fun fi => (q.1, fi.size)) (i.z.map ZC.mc) parts.toList).map fun q => (q.1 ∧ (∀ g ∈ l, (T g.2).isSome = true), s.put o.dst (.agg q.2))
        | .arr m e => match T e with
          | some ie => (fillM s T (fun j => some (j * ie.size, ie.size)) (i.z.map ZC.mc) parts.toList).map fun q => (q.1, s.put o.dst (.agg q.2))
          | none => none
        | _ => none
      | none => none
    | .makeSlice t (.tmp x) (.tmp y) => match T t, evO s (.tmp x) with
      | some i, some (.one (.sc (.int k n))) => match i.k with
        | .slice e => match T e with
          | some ie => if x = y then some (0 ≤ n ∧ n ≤ 281474976710656 ∧ ie.bytes * n ≤ 281474976710656, (s.new (.arr (List.replicate n.toNat (ie.z.map ZC.mc)))).put o.dst (.one (.ref s.n 0 n.toNat))) else none
          | none => none
        | _ => none
      | _, _ => none
    | .buildSlice t len parts => match T t with
      | some i => match i.k with
        | .slice e => match T e with
          | some ie => match len with
            | 0 => if parts.toList.isEmpty = true then some (True, s.put o.dst (.one .nil)) else none
            | n + 1 => (fillM s T (fun j => some (j * ie.size, ie.size)) (zrep (ie.z.map ZC.mc) (n + 1)) parts.toList).map fun q =>
                (q.1 ∧ (0 < ie.size ∧ (n + 1) * ie.size ≤ 16777216) ∧ q.2.length = (n + 1) * ie.size ∧ (∀ x ∈ q.2, x.bd s.n), (s.new (.arr (chunk (n + 1) ie.size q.2))).put o.dst (.one (.ref s.n 0 (n + 1))))
          | none => none
        | _ => none
      | none => none
    | .slice t x lo hi none => match T t, evO s x with
      | some i, some (.one c) => match i.k with
        | .slice e => match T e with
          | some ie => match fzRows c with
            | some rows => match bnd s 0 lo, bnd s rows.length hi with
              | some l, some h => some ((0 ≤ l ∧ l ≤ h ∧ h ≤ rows.length) ∧ ∀ r ∈ rows, r.length = ie.size, s.put o.dst (.one (fzMk c ((rows.take h.toNat).drop l.toNat))))
              | _, _ => none
            | none => match c with
              | .ref id off len => match look s.st id, bnd s 0 lo, bnd s len hi with
                | some (.arr rows), some l, some h => some ((0 ≤ l ∧ l ≤ h ∧ h ≤ len) ∧ ∀ r ∈ rows, r.length = ie.size, s.put o.dst (.one (.ref id (off + l.toNat) (h.toNat - l.toNat))))
                | _, _, _ => none
              | _ => none
          | none => none
        | _ => none
      | _, _ => none
    | .binOp op t x y yt => (stepB P T s op t x y yt).map fun q => (q.1, s.put o.dst q.2)
    | op => (stepV T s op).map fun q => (q.1, s.put o.dst q.2)

theorem pj {α β : Type} {a c : α} {b d : β} (h : some (a, b) = some (c, d)) : a = c ∧ b = d := Prod.mk.inj (Option.some.inj h)

theorem getD_some {α : Type} {l : List α} {i : Nat} {d : α} (h : i < l.length) : l[i]? = some (l.getD i d) := by simp [List.getElem?_eq_getElem h]

theorem stepIx_ok {h : Option Hint} {s s' : S} {o : Oper} {p : Prop} {K : S → Prop} {t : TypeId} {x y : Operand} (hT : TOk P T) (ho : o.op = .indexAddr t x y) (hd : Oper.dok o s.m = true)
    (hs : stepIx T h s o t x y = some (p, s')) (hp : p) (k : K s') : OpOK P o s K := by
  unfold stepIx at hs
  split at hs
  · rename_i i c kk n ht hx hy
    split at hs
    · rename_i e hk
      split at hs
      · rename_i ie he
        split at hs
        · rename_i rows row hc _
          obtain ⟨rfl, rfl⟩ := pj hs
          exact r_indexF hT ho hd ht hk he hx hc hy hp.1 hp.2.1 hp.2.2 k
        · cases hs
        · split at hs
          · rename_i id off len
            split at hs
            · rename_i rows row hlk _
              obtain ⟨rfl, rfl⟩ := pj hs
              exact r_indexR hT ho hd ht hk he hx hy hlk hp.1 hp.2.1 hp.2.2 k
            · rename_i rows hlk _
              obtain ⟨rfl, rfl⟩ := pj hs
              exact r_indexR hT ho hd ht hk he hx hy hlk hp.1 (getD_some hp.2.1) hp.2.2 k
            · cases hs
          · cases hs
      · cases hs
    · rename_i m e hk
      split at hs
      · rename_i ie he hc
        obtain ⟨rfl, rfl⟩ := pj hs
        exact r_indexA hT ho hd ht hk he hx hy hc hp k
      · cases hs
    · cases hs
  · cases hs

theorem stepAp_ok {s s' : S} {o : Oper} {p : Prop} {K : S → Prop} {args : Array Operand} {ats : Array TypeId} (hT : TOk P T) (ho : o.op = .call { callee := .builtin .append, args := args, argTypes := ats }) (hd : Oper.dok o s.m = true)
    (hs : stepAp T s o args.toList ats.toList = some (p, s')) (hp : p) (k : K s') : OpOK P o s K := by
  unfold stepAp at hs
  split at hs
  · rename_i x y t t2 hargs hats
    obtain rfl : args = #[x, y] := by cases args; simpa using hargs
    obtain rfl : ats = #[t, t2] := by cases ats; simpa using hats
    split at hs
    · rename_i i i2 c d ht ht2 hx hy
      split at hs
      · rename_i e e2 hk hk2
        split at hs
        · rename_i ie rows st rows2 he hb hr
          split at hs
          · rename_i hee
            subst hee
            obtain ⟨rfl, rfl⟩ := pj hs
            exact r_append hT ho hd ht hk he ht2 hk2 hx hy hb (fun id off len hc => by subst hc; exact hp.1) hr hp.2.1 hp.2.2.1 hp.2.2.2.1 hp.2.2.2.2 k
          · cases hs
        · cases hs
      · cases hs
    · cases hs
  · cases hs

theorem stepB_ok {s : S} {o : Oper} {p : Prop} {v : MV} {K : S → Prop} {op : BinOp} {t yt : TypeId} {x y : Operand} (hT : TOk P T) (ho : o.op = .binOp op t x y yt) (hd : Oper.dok o s.m = true)
    (hs : stepB P T s op t x y yt = some (p, v)) (hp : p) (k : K (s.put o.dst v)) : OpOK P o s K := by
  unfold stepB at hs
  split at hs
  · rename_i xs ys hx hy
    split at hs
    · rename_i i ht
      split at hs
      · rename_i l b hk hb
        split at hs
        · obtain ⟨rfl, rfl⟩ := pj hs
          exact r_eqs hT ho hd ht hk hx hy hb hp.h (.inl ⟨rfl, rfl⟩) k
        · obtain ⟨rfl, rfl⟩ := pj hs
          exact r_eqs hT ho hd ht hk hx hy hb hp.h (.inr ⟨rfl, rfl⟩) k
        · cases hs
      · cases hs
    · cases hs
  · rw [← ho] at hs
    exact stepV_ok hT hd hs hp k

theorem stepF_ok {h : Option Hint} {s s' : S} {o : Oper} {p : Prop} {K : S → Prop} (hT : TOk P T) (hs : stepF P T h s o = some (p, s')) (hp : p) (k : K s') : OpOK P o s K := by
  unfold stepF at hs
  split at hs
  · cases hs
  · rename_i hd
    have hV : ∀ {op : Op}, o.op = op → (stepV T s op).map (fun q => (q.1, s.put o.dst q.2)) = some (p, s') → OpOK P o s K := fun {op} ho hv => by
      obtain ⟨q, hq, he⟩ := Option.map_eq_some_iff.1 hv
      obtain ⟨rfl, rfl⟩ := Prod.mk.inj he
      rw [← ho] at hq
      exact stepV_ok hT hd hq hp k
    split at hs
    · rename_i t x y ho
      exact stepIx_ok hT ho hd hs hp k
    · rename_i c ho
      obtain ⟨cal, args, ats⟩ := c
      simp only at hs
      split at hs
      · rename_i f
        split at hs
        · rename_i p' ds r hl
          obtain ⟨rfl, rfl⟩ := pj hs
          exact r_call ho hd hl hp.1 hp.2 k
        · rename_i p' ds g hl
          obtain ⟨rfl, rfl⟩ := pj hs
          exact r_call ho hd hl hp.1 hp.2 k
        · cases hs
      · split at hs
        · rename_i f p' ds r hf hl
          obtain ⟨rfl, rfl⟩ := pj hs
          exact r_callV ho (calleeF_ok hf) hd hl hp.1 hp.2 k
        · rename_i f p' ds g hf hl
          obtain ⟨rfl, rfl⟩ := pj hs
          exact r_callV ho (calleeF_ok hf) hd hl hp.1 hp.2 k
        · cases hs
      · exact stepAp_ok hT ho hd hs hp k
      · exact hV ho hs
    · rename_i f ho
      obtain ⟨rfl, rfl⟩ := pj hs
      exact r_makeFunc ho hd k
    · rename_i t x ho
      split at hs
      · rename_i cs hcs
        obtain ⟨rfl, rfl⟩ := pj hs
        obtain ⟨v, hv, hm⟩ := Option.bind_eq_some_iff.1 hcs
        exact r_box ho hd hv hm k
      · cases hs
    · rename_i t ho
      split at hs
      · rename_i i ht
        obtain ⟨rfl, rfl⟩ := pj hs
        exact r_alloc hT ho hd ht k
      · cases hs
    · rename_i t x y ho
      split at hs
      · rename_i i id r f cs hdst ht hx hcs
        split at hs
        · rename_i ob hlk
          obtain ⟨q, hq, he⟩ := Option.map_eq_some_iff.1 hs
          obtain ⟨rfl, rfl⟩ := Prod.mk.inj he
          obtain ⟨v, hv, hm⟩ := Option.bind_eq_some_iff.1 hcs
          exact r_store hT ho hdst ht hx hv hm hlk hq hp.1 hp.2 k
        · cases hs
      · cases hs
    · rename_i t parts ho
      split at hs
      · rename_i i ht
        split at hs
        · rename_i l hk
          obtain ⟨q, hq, he⟩ := Option.map_eq_some_iff.1 hs
          obtain ⟨rfl, rfl⟩ := Prod.mk.inj he
          exact r_build hT ho hd ht hk hq hp.1 hp.2 k
        · rename_i m e hk
          split at hs
          · rename_i ie he'
            obtain ⟨q, hq, he⟩ := Option.map_eq_some_iff.1 hs
            obtain ⟨rfl, rfl⟩ := Prod.mk.inj he
            exact r_buildA hT ho hd ht hk he' hq hp k
          · cases hs
        · cases hs
      · cases hs
    · rename_i t x y ho
      split at hs
      · rename_i i kk n ht hx
        split at hs
        · rename_i e hk
          split at hs
          · rename_i ie he
            split at hs
            · rename_i hxy
              subst hxy
              obtain ⟨rfl, rfl⟩ := pj hs
              exact r_make hT ho hd ht hk he hx hp k
            · cases hs
          · cases hs
        · cases hs
      · cases hs
    · rename_i t len parts ho
      split at hs
      · rename_i i ht
        split at hs
        · rename_i e hk
          split at hs
          · rename_i ie he
            split at hs
            · split at hs
              · rename_i hemp
                obtain ⟨rfl, rfl⟩ := pj hs
                obtain rfl : parts = #[] := by cases parts; simpa using hemp
                exact r_buildSlice0 hT ho hd ht hk he k
              · cases hs
            · obtain ⟨q, hq, he'⟩ := Option.map_eq_some_iff.1 hs
              obtain ⟨rfl, rfl⟩ := Prod.mk.inj he'
              exact r_buildSlice hT ho hd ht hk he ⟨Nat.succ_pos _, hp.2.1⟩ hq hp.1 hp.2.2.1 hp.2.2.2 k
          · cases hs
        · cases hs
      · cases hs
    · rename_i t x lo hi ho
      split at hs
      · rename_i i c ht hx
        split at hs
        · rename_i e hk
          split at hs
          · rename_i ie he
            split at hs
            · rename_i rows hc
              split at hs
              · rename_i l h hl hh
                obtain ⟨rfl, rfl⟩ := pj hs
                exact r_sliceF hT ho hd ht hk he hx hc hl hh hp.1 hp.2 k
              · cases hs
            · split at hs
              · rename_i id off len _
                split at hs
                · rename_i rows l h hlk hl hh
                  obtain ⟨rfl, rfl⟩ := pj hs
                  exact r_sliceR hT ho hd ht hk he hx hlk hl hh hp.1 hp.2 k
                · cases hs
              · cases hs
          · cases hs
        · cases hs
      · cases hs
    · rename_i op t x y yt ho
      obtain ⟨q, hq, he⟩ := Option.map_eq_some_iff.1 hs
      obtain ⟨rfl, rfl⟩ := Prod.mk.inj he
      exact stepB_ok hT ho hd hq hp k
    · exact hV rfl hs

end Mg
