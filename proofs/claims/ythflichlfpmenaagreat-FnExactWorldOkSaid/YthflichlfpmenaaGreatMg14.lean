/- The abstract state logic, part 14: an operation's step, reckoned. No condition. -/
import Derived.Test.YthflichlfpmenaaGreatMg13
namespace Mg
open Go Go.RowKit
set_option linter.unusedVariables false

/-- What the proof knows ahead: an element's row, a call's result. -/
structure ConT : Type 1 where
  D : Type
  p : D → Prop
  r : D → MV
  os : D → List Ob
inductive Hint : Type 1 where
  | row (r : List MC)
  | rowf (g : Int → List MC)
  | res (r : MV)
  | resf (g : List MV → MV)
  | con (md : Bool) (β cs fs : List Nat) (C : List MV → List Ob → ConT)
def rowH : Option Hint → Int → Option Hint
  | some (.rowf g), n => some (.row (g n))
  | h, _ => h

def S.app2 (s : S) (rows : List (List MC)) (st : List (Nat × Ob)) (d : Option Nat) (n : Nat) : S := (s.app rows st).put d (.one (.ref s.n 0 n))

def stepLen (T : Tab) (s : S) : List Operand → List TypeId → Option (Prop × MV)
  | [x], [t] => match T t, evO s x with
    | some i, some v => match i.k with
      | .slice _ => match v with
        | .one (.ref id f l) => match look s.st id with
          | some (.arr _) => some (True, .one (.sc (.int .i64 l)))
          | _ => none
        | v => (lenV v).map fun n => (True, .one (.sc (.int .i64 n)))
      | .str => match v with
        | .one (.sc (.string b)) => some (True, .one (.sc (.int .i64 b.size)))
        | _ => none
      | _ => none
    | _, _ => none
  | _, _ => none

def stepV (T : Tab) (s : S) : Op → Option (Prop × MV)
  | .move x => (evO s x).map fun v => (True, v)
  | .assign x => (evO s x).map fun v => (True, v)
  | .pick c x y => match evO s c with
    | some (.one (.sc (.bool true))) => (evO s x).map fun v => (True, v)
    | some (.one (.sc (.bool false))) => (evO s y).map fun v => (True, v)
    | _ => none
  | .binOp op t x y _ => match evO s x, evO s y with
    | some (.one (.sc (.bool a))), some (.one (.sc (.bool b))) => match T t with
      | some i => match i.k, op with
        | .bool, .eql => some (True, .one (.sc (.bool (a == b))))
        | .bool, .neq => some (True, .one (.sc (.bool (!(a == b)))))
        | _, _ => none
      | none => none
    | some (.one (.sc u)), some (.one (.sc v)) => (binV op u v).map fun q => (q.1, .one (.sc q.2))
    | _, _ => none
  | .unOp .not _ x => match evO s x with
    | some (.one (.sc (.bool b))) => some (True, .one (.sc (.bool (!b))))
    | _ => none
  | .unOp .neg _ x => match evO s x with
    | some (.one (.sc (.int k n))) => some (True, .one (.sc (.int k (k.wrap (0 - n)))))
    | _ => none
  | .convert t t' x => match T t, T t', evO s x with
    | some i, some i', some (.one (.sc (.int k n))) => match i.k, i'.k with
      | .int k1, .int k2 => if k1 = k then some (True, .one (.sc (.int k2 (k2.wrap n)))) else none
      | _, _ => none
    | _, _, _ => none
  | .nilCheck x => match evO s x with
    | some (.one c) => match okP (look s.st) c with
      | true => some (True, .one c)
      | false => none
    | _ => none
  | .extract x i => match evO s x with
    | some (.tup vs) => match vs[i]? with
      | some (.one c) => some (True, .one c)
      | some (.agg cs) => some (True, .agg cs)
      | _ => none
    | _ => none
  | .fieldAddr t x f => match T t, evO s x with
    | some i, some (.one c) => match i.k with
      | .struct l => match l[f]?, okP (look s.st) c with
        | some (off, _), true => some (True, .one (ptrAdd c off))
        | _, _ => none
      | _ => none
    | _, _ => none
  | .load t x => match T t, evO s x with
    | some i, some (.one c) => match ptrCells s c with
      | some cs => match i.k with
        | .struct _ => some (i.size ≤ cs.length, .agg (cs.take i.size))
        | .arr _ _ => some (i.size ≤ cs.length, .agg (cs.take i.size))
        | .other => none
        | _ => some (0 < cs.length, .one (cs.getD 0 .dead))
      | none => none
    | _, _ => none
  | .call c => match c.callee with
    | .builtin .len => stepLen T s c.args.toList c.argTypes.toList
    | _ => none
  | _ => none

variable {P : Program} {T : Tab}

theorem stepV_ok {s : S} {o : Oper} {p : Prop} {v : MV} {K : S → Prop} (hT : TOk P T) (hd : Oper.dok o s.m = true) (h : stepV T s o.op = some (p, v)) (hp : p) (k : K (s.put o.dst v)) : OpOK P o s K := by
  generalize ho : o.op = op at h
  unfold stepV at h
  split at h
  · obtain ⟨v', hv, he⟩ := Option.map_eq_some_iff.1 h
    obtain ⟨rfl, rfl⟩ := Prod.mk.inj he
    exact r_move (.inl ho) hd hv k
  · obtain ⟨v', hv, he⟩ := Option.map_eq_some_iff.1 h
    obtain ⟨rfl, rfl⟩ := Prod.mk.inj he
    exact r_move (.inr ho) hd hv k
  · split at h
    · rename_i hc
      obtain ⟨v', hv, he⟩ := Option.map_eq_some_iff.1 h
      obtain ⟨rfl, rfl⟩ := Prod.mk.inj he
      exact r_pick ho hd hc (by simpa using hv) k
    · rename_i hc
      obtain ⟨v', hv, he⟩ := Option.map_eq_some_iff.1 h
      obtain ⟨rfl, rfl⟩ := Prod.mk.inj he
      exact r_pick ho hd hc (by simpa using hv) k
    · cases h
  · split at h
    · rename_i a b hx hy
      split at h
      · rename_i i ht
        split at h
        · rename_i hk
          obtain ⟨rfl, rfl⟩ := Prod.mk.inj (Option.some.inj h)
          exact r_binb hT ho hd ht hk hx hy (.inl ⟨rfl, rfl⟩) k
        · rename_i hk
          obtain ⟨rfl, rfl⟩ := Prod.mk.inj (Option.some.inj h)
          exact r_binb hT ho hd ht hk hx hy (.inr ⟨rfl, rfl⟩) k
        · cases h
      · cases h
    · rename_i u w _ hx hy
      obtain ⟨q, hq, he⟩ := Option.map_eq_some_iff.1 h
      obtain ⟨rfl, rfl⟩ := Prod.mk.inj he
      exact r_bin ho hd hx hy hq hp k
    · cases h
  · split at h
    · rename_i hx
      obtain ⟨rfl, rfl⟩ := Prod.mk.inj (Option.some.inj h)
      exact r_not ho hd hx k
    · cases h
  · split at h
    · rename_i hx
      obtain ⟨rfl, rfl⟩ := Prod.mk.inj (Option.some.inj h)
      exact r_neg ho hd hx k
    · cases h
  · split at h
    · rename_i i i' kk n ht ht' hx
      split at h
      · rename_i k1 k2 hk hk'
        split at h
        · rename_i hkk
          subst hkk
          obtain ⟨rfl, rfl⟩ := Prod.mk.inj (Option.some.inj h)
          exact r_conv hT ho hd ht hk ht' hk' hx k
        · cases h
      · cases h
    · cases h
  · split at h
    · rename_i c hx
      split at h
      · rename_i hc
        obtain ⟨rfl, rfl⟩ := Prod.mk.inj (Option.some.inj h)
        exact r_nilCheck ho hd hx hc k
      · cases h
    · cases h
  · split at h
    · rename_i vs hx
      split at h
      · rename_i c hi
        obtain ⟨rfl, rfl⟩ := Prod.mk.inj (Option.some.inj h)
        exact r_extract ho hd hx hi (fun l hl => by cases hl) k
      · rename_i cs hi
        obtain ⟨rfl, rfl⟩ := Prod.mk.inj (Option.some.inj h)
        exact r_extract ho hd hx hi (fun l hl => by cases hl) k
      · cases h
    · cases h
  · split at h
    · rename_i i c ht hx
      split at h
      · rename_i l hk
        split at h
        · rename_i off ft hf hc
          obtain ⟨rfl, rfl⟩ := Prod.mk.inj (Option.some.inj h)
          exact r_fieldAddr hT ho hd ht hk hf hx hc k
        · cases h
      · cases h
    · cases h
  · split at h
    · rename_i i c ht hx
      split at h
      · rename_i cs hcs
        split at h
        · rename_i hk
          obtain ⟨rfl, rfl⟩ := Prod.mk.inj (Option.some.inj h)
          exact r_load hT ho hd ht (by rw [hk]) hx hcs hp k
        · rename_i hk
          obtain ⟨rfl, rfl⟩ := Prod.mk.inj (Option.some.inj h)
          exact r_load hT ho hd ht (by rw [hk]) hx hcs hp k
        · cases h
        · rename_i h1 h2 h3
          obtain ⟨rfl, rfl⟩ := Prod.mk.inj (Option.some.inj h)
          refine r_load1 hT ho hd ht ?_ hx hcs hp k
          cases hk : i.k <;> first | rfl | (exact absurd hk (h2 _ _)) | (exact absurd hk (h1 _)) | (exact absurd hk h3)
      · cases h
    · cases h
  · rename_i c
    obtain ⟨cal, args, ats⟩ := c
    simp only at h
    split at h
    · unfold stepLen at h
      split at h
      · rename_i x t hargs hats
        obtain rfl : args = #[x] := by cases args; simpa using hargs
        obtain rfl : ats = #[t] := by cases ats; simpa using hats
        split at h
        · rename_i i v' ht hx
          split at h
          · rename_i e hk
            split at h
            · rename_i id f l
              split at h
              · rename_i rows hlk
                obtain ⟨rfl, rfl⟩ := Prod.mk.inj (Option.some.inj h)
                exact r_len hT ho hd ht hk hx rfl (fun id' f' l' he => by cases he; exact ⟨_, hlk⟩) k
              · cases h
            · rename_i hne
              obtain ⟨n, hn, he⟩ := Option.map_eq_some_iff.1 h
              obtain ⟨rfl, rfl⟩ := Prod.mk.inj he
              exact r_len hT ho hd ht hk hx hn (fun id' f' l' he => absurd he (hne id' f' l')) k
          · rename_i hk
            split at h
            · obtain ⟨rfl, rfl⟩ := Prod.mk.inj (Option.some.inj h)
              exact r_lenstr hT ho hd ht hk hx k
            · cases h
          · cases h
        · cases h
      · cases h
    · cases h
  · cases h

end Mg
