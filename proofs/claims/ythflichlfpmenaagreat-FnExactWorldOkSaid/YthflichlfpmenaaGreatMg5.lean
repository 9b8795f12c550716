/- The abstract state logic, part 5: rules for the operations that compute. No condition. -/
import Derived.Test.YthflichlfpmenaaGreatMg4
namespace Mg
open Go Go.RowKit

variable {P : Program} {T : Tab} {o : Oper} {s : S} {K : S → Prop}

theorem r_move {x : Operand} {v : MV} (ho : o.op = .move x ∨ o.op = .assign x) (hd : Oper.dok o s.m = true) (hx : evO s x = some v) (k : K (s.put o.dst v)) : OpOK P o s K :=
  OpOK.val (Oper.dok_spec hd) (fun w0 wr A L F a w h => by
    obtain ⟨h1, h2⟩ := evO_ok h hx
    refine ⟨a.eval x, ?_, h1, h2⟩
    rcases ho with ho | ho <;> simp [execOp, ho]) k

theorem r_pick {c x y : Operand} {t : Bool} {v : MV} (ho : o.op = .pick c x y) (hd : Oper.dok o s.m = true) (hc : evO s c = some (.one (.sc (.bool t))))
    (hx : (if t = true then evO s x else evO s y) = some v) (k : K (s.put o.dst v)) : OpOK P o s K :=
  OpOK.val (Oper.dok_spec hd) (fun w0 wr A L F a w h => by
    obtain ⟨⟨h1, _⟩, _⟩ := evO_ok h hc
    cases t with
    | true =>
      obtain ⟨h3, h4⟩ := evO_ok h (x := x) (by simpa using hx)
      exact ⟨a.eval x, by simp [execOp, ho, h1, asBool], h3, h4⟩
    | false =>
      obtain ⟨h3, h4⟩ := evO_ok h (x := y) (by simpa using hx)
      exact ⟨a.eval y, by simp [execOp, ho, h1, asBool], h3, h4⟩) k

def binV : BinOp → Value → Value → Option (Prop × Value)
  | .add, .int k a, .int k' b => if k = k' then some (True, .int k (k.wrap (a + b))) else none
  | .sub, .int k a, .int k' b => if k = k' then some (True, .int k (k.wrap (a - b))) else none
  | .mul, .int k a, .int k' b => if k = k' then some (True, .int k (k.wrap (a * b))) else none
  | .quo, .int k a, .int k' b => if k = k' then some (b ≠ 0, .int k (k.wrap (a.tdiv b))) else none
  | .rem, .int k a, .int k' b => if k = k' then some (b ≠ 0, .int k (a.tmod b)) else none
  | .xor, .int k a, .int k' b => if k = k' then some (True, .int k (k.wrap (BitVec.ofInt k.bits a ^^^ BitVec.ofInt k.bits b).toNat)) else none
  | .eql, .int k a, .int k' b => if k = k' then some (True, .bool (a == b)) else none
  | .neq, .int k a, .int k' b => if k = k' then some (True, .bool (a != b)) else none
  | .lss, .int k a, .int k' b => if k = k' then some (True, .bool (decide (a < b))) else none
  | .leq, .int k a, .int k' b => if k = k' then some (True, .bool (decide (a ≤ b))) else none
  | .gtr, .int k a, .int k' b => if k = k' then some (True, .bool (decide (a > b))) else none
  | .geq, .int k a, .int k' b => if k = k' then some (True, .bool (decide (a ≥ b))) else none
  | .add, .string a, .string b => some (((a.size + b.size : Nat) : Int) ≤ 9223372036854775807, .string (a ++ b))
  | .eql, .string a, .string b => some (True, .bool (a.toList == b.toList))
  | .neq, .string a, .string b => some (True, .bool (!(a.toList == b.toList)))
  | _, _, _ => none

theorem binV_ok {op : BinOp} {t : TypeId} {x y : Operand} {u v r : Value} {c : Prop} (h : binV op u v = some (c, r)) (hc : c) (w : World) :
    (do eqGuard op t x y u v; binOp op t u v : Sem Value).run P w = .ok r w ∧ r.oneCell' = true := by
  unfold binV at h
  split at h
  all_goals first
    | (cases h; done)
    | (split at h
       · rename_i hk; subst hk
         obtain ⟨rfl, rfl⟩ := Prod.mk.inj (Option.some.inj h)
         first
           | (refine ⟨?_, rfl⟩; simp [eqGuard, binOp, Op.intArith, Op.intCmp, Op.intBits]; done)
           | (refine ⟨?_, rfl⟩; simp [eqGuard, binOp, Op.intDiv, hc]; done)
       · cases h)
    | (obtain ⟨rfl, rfl⟩ := Prod.mk.inj (Option.some.inj h)
       first
         | (refine ⟨?_, rfl⟩; simp [eqGuard, binOp, Op.stringOp]; done)
         | (refine ⟨?_, rfl⟩; have hc' : ¬ (((‹ByteArray›.size + ‹ByteArray›.size : Nat) : Int) > IntKind.i64.max) := by (simp [IntKind.max, IntKind.signed, IntKind.bits]; omega)
            simp [eqGuard, binOp, Op.stringOp]; done)
         | (refine ⟨?_, rfl⟩; simp [eqGuard, binOp, Op.stringOp, IntKind.max, IntKind.signed, IntKind.bits]; omega))

theorem r_bin {op : BinOp} {t yt : TypeId} {x y : Operand} {u v r : Value} {c : Prop} (ho : o.op = .binOp op t x y yt) (hd : Oper.dok o s.m = true)
    (hx : evO s x = some (.one (.sc u))) (hy : evO s y = some (.one (.sc v))) (hb : binV op u v = some (c, r)) (hc : c) (k : K (s.put o.dst (.one (.sc r)))) : OpOK P o s K :=
  OpOK.val (Oper.dok_spec hd) (fun w0 wr A L F a w h => by
    obtain ⟨⟨h1, _⟩, _⟩ := evO_ok h hx
    obtain ⟨⟨h2, _⟩, _⟩ := evO_ok h hy
    obtain ⟨h3, h4⟩ := binV_ok (P := P) (t := t) (x := x) (y := y) hb hc w
    refine ⟨r, ?_, ⟨rfl, h4⟩, trivial⟩
    simp only [execOp, ho, h1, h2]
    rw [Sem.run_bind, h3]; rfl) k

theorem equal_bool {t : TypeId} (hu : P.underlying t = some .bool) (u v : Bool) (w : World) : (Op.equal t (.bool u) (.bool v)).run P w = .ok (u == v) w := by
  unfold Op.equal
  rw [show Op.maxDepth = Nat.succ 9999 from rfl, Op.equalIn]
  simp only [Sem.run_bind, run_underlying hu w, Result.andThen_ok]
  rfl

theorem r_binb {op : BinOp} {t yt : TypeId} {x y : Operand} {u v r : Bool} {i : TI} (hT : TOk P T) (ho : o.op = .binOp op t x y yt) (hd : Oper.dok o s.m = true)
    (ht : T t = some i) (hk : i.k = .bool)
    (hx : evO s x = some (.one (.sc (.bool u)))) (hy : evO s y = some (.one (.sc (.bool v)))) (hb : (op = .eql ∧ r = (u == v)) ∨ (op = .neq ∧ r = !(u == v)))
    (k : K (s.put o.dst (.one (.sc (.bool r))))) : OpOK P o s K :=
  OpOK.val (Oper.dok_spec hd) (fun w0 wr A L F a w h => by
    obtain ⟨⟨h1, _⟩, _⟩ := evO_ok h hx
    obtain ⟨⟨h2, _⟩, _⟩ := evO_ok h hy
    refine ⟨.bool r, ?_, ⟨rfl, rfl⟩, trivial⟩
    have he := equal_bool (P := P) (hT.und_bool ht hk) u v w
    have hg : ∀ op, (eqGuard op t x y (.bool u) (.bool v)).run P w = .ok () w := fun op => by cases op <;> rfl
    rcases hb with ⟨rfl, rfl⟩ | ⟨rfl, rfl⟩
    all_goals
      simp only [execOp, ho, h1, h2]
      rw [Sem.run_bind, Sem.run_bind, hg]
      simp only [Result.andThen_ok, binOp, Sem.run_bind, he, Sem.run_pure]) k

theorem r_not {t : TypeId} {x : Operand} {b : Bool} (ho : o.op = .unOp .not t x) (hd : Oper.dok o s.m = true) (hx : evO s x = some (.one (.sc (.bool b))))
    (k : K (s.put o.dst (.one (.sc (.bool (!b)))))) : OpOK P o s K :=
  OpOK.val (Oper.dok_spec hd) (fun w0 wr A L F a w h => by
    obtain ⟨⟨h1, _⟩, _⟩ := evO_ok h hx
    exact ⟨.bool (!b), by simp [execOp, ho, h1, Op.unary], ⟨rfl, rfl⟩, trivial⟩) k

theorem r_neg {t : TypeId} {x : Operand} {ik : IntKind} {n : Int} (ho : o.op = .unOp .neg t x) (hd : Oper.dok o s.m = true) (hx : evO s x = some (.one (.sc (.int ik n))))
    (k : K (s.put o.dst (.one (.sc (.int ik (ik.wrap (0 - n))))))) : OpOK P o s K :=
  OpOK.val (Oper.dok_spec hd) (fun w0 wr A L F a w h => by
    obtain ⟨⟨h1, _⟩, _⟩ := evO_ok h hx
    exact ⟨.int ik (ik.wrap (0 - n)), by simp [execOp, ho, h1, Op.unary, Op.intArith], ⟨rfl, rfl⟩, trivial⟩) k

theorem r_conv {t t' : TypeId} {x : Operand} {ik ik' : IntKind} {n : Int} {i i' : TI} (hT : TOk P T) (ho : o.op = .convert t t' x) (hd : Oper.dok o s.m = true)
    (ht : T t = some i) (hk : i.k = .int ik) (ht' : T t' = some i') (hk' : i'.k = .int ik') (hx : evO s x = some (.one (.sc (.int ik n))))
    (k : K (s.put o.dst (.one (.sc (.int ik' (ik'.wrap n)))))) : OpOK P o s K :=
  OpOK.val (Oper.dok_spec hd) (fun w0 wr A L F a w h => by
    obtain ⟨⟨h1, _⟩, _⟩ := evO_ok h hx
    have hu := run_underlying (hT.und_int ht hk)
    have hu' := run_underlying (hT.und_int ht' hk')
    exact ⟨.int ik' (ik'.wrap n), by simp [execOp, ho, h1, convert, hu, hu', Conv.intToInt], ⟨rfl, rfl⟩, trivial⟩) k

/-- A pointer that may be followed. -/
def okP (st : Sto) : MC → Bool
  | .ptr id _ _ => (st id).isSome
  | .fptr _ => true
  | .aptr _ => true
  | _ => false

theorem r_nilCheck {x : Operand} {c : MC} (ho : o.op = .nilCheck x) (hd : Oper.dok o s.m = true) (hx : evO s x = some (.one c))
    (hc : okP (look s.st) c = true) (k : K (s.put o.dst (.one c))) : OpOK P o s K :=
  OpOK.val (Oper.dok_spec hd) (fun w0 wr A L F a w h => by
    obtain ⟨h1, h2⟩ := evO_ok h hx
    refine ⟨a.eval x, ?_, h1, h2⟩
    cases c <;> simp [okP] at hc
    case ptr id r f =>
      obtain ⟨b, t, _, hv⟩ := h1.2 hc
      simp [execOp, ho, hv]
    all_goals
      obtain ⟨b, t, _, hv, _⟩ := h1
      simp [execOp, ho, hv]) k

theorem r_extract {x : Operand} {i : Nat} {vs : List MV} {v : MV} (ho : o.op = .extract x i) (hd : Oper.dok o s.m = true) (hx : evO s x = some (.tup vs)) (hi : vs[i]? = some v)
    (hn : ∀ l, v ≠ .tup l) (k : K (s.put o.dst v)) : OpOK P o s K :=
  OpOK.val (Oper.dok_spec hd) (fun w0 wr A L F a w h => by
    obtain ⟨⟨arr, h1, h3, h4⟩, h2⟩ := evO_ok h hx
    obtain ⟨u, hu, hr⟩ := h4 i v hi
    refine ⟨u, by simp [execOp, ho, h1, Instr.extract, hu], ?_, ?_⟩
    · cases v <;> first | exact hr | exact absurd rfl (hn _)
    · have := h2 v (List.mem_of_getElem? hi)
      cases v <;> first | exact this | exact absurd rfl (hn _)) k

/-- The length of what stands in a slot. -/
def lenV : MV → Option Int
  | .one (.fz rows) => some rows.length
  | .one (.ag rows) => some rows.length
  | .one (.ref _ _ n) => some n
  | .one .nil => some 0
  | _ => none

theorem r_len {x : Operand} {t : TypeId} {e : Nat} {i : TI} {v : MV} {n : Int} (hT : TOk P T) (ho : o.op = .call { callee := .builtin .len, args := #[x], argTypes := #[t] })
    (hd : Oper.dok o s.m = true) (ht : T t = some i) (hk : i.k = .slice e) (hx : evO s x = some v) (hl : lenV v = some n)
    (hs : ∀ id f l, v = .one (.ref id f l) → ∃ rows, look s.st id = some (.arr rows))
    (k : K (s.put o.dst (.one (.sc (.int .i64 n))))) : OpOK P o s K :=
  OpOK.val (Oper.dok_spec hd) (fun w0 wr A L F a w h => by
    obtain ⟨h1, h2⟩ := evO_ok h hx
    have hu := run_underlying (hT.und_slice ht hk)
    have key : ∃ b m c, a.eval x = .slice b m c ∧ (m : Int) = n := by
      unfold lenV at hl
      split at hl
      · obtain rfl := Option.some.inj hl
        obtain ⟨b, c, hv, _⟩ := RF.fz_inv h1
        exact ⟨b, _, c, hv, rfl⟩
      · obtain rfl := Option.some.inj hl
        obtain ⟨b, c, hv, _⟩ := RF.fz_inv h1
        exact ⟨b, _, c, hv, rfl⟩
      · obtain rfl := Option.some.inj hl
        rename_i id f l
        obtain ⟨rows, hr⟩ := hs id f l rfl
        obtain ⟨b, c, hv, _⟩ := h1.2 rows hr
        exact ⟨b, _, c, hv, rfl⟩
      · obtain rfl := Option.some.inj hl
        obtain ⟨b, hv⟩ := h1
        exact ⟨b, _, _, hv, rfl⟩
      · cases hl
    obtain ⟨b, m, c, hv, rfl⟩ := key
    refine ⟨.int .i64 m, ?_, ⟨rfl, rfl⟩, trivial⟩
    simp [execOp, ho, resolve, invoke, builtin, Builtin.len_, hv, hu, goInt]) k

theorem r_lenstr {x : Operand} {t : TypeId} {i : TI} {b : ByteArray} (hT : TOk P T) (ho : o.op = .call { callee := .builtin .len, args := #[x], argTypes := #[t] })
    (hd : Oper.dok o s.m = true) (ht : T t = some i) (hk : i.k = .str) (hx : evO s x = some (.one (.sc (.string b))))
    (k : K (s.put o.dst (.one (.sc (.int .i64 b.size))))) : OpOK P o s K :=
  OpOK.val (Oper.dok_spec hd) (fun w0 wr A L F a w h => by
    obtain ⟨⟨h1, _⟩, h2⟩ := evO_ok h hx
    have hu := run_underlying (hT.und_str ht hk)
    refine ⟨.int .i64 b.size, ?_, ⟨rfl, rfl⟩, trivial⟩
    simp [execOp, ho, resolve, invoke, builtin, Builtin.len_, h1, hu, goInt]) k

/-- A pointer within a struct. -/
def ptrAdd : MC → Nat → MC
  | .ptr id r f, n => .ptr id r (f + n)
  | .fptr cs, n => .fptr (cs.drop n)
  | .aptr cs, n => .aptr (cs.drop n)
  | c, _ => c

theorem ptr_add {st : Sto} {L : Lay} {w : World} {F : FF} {c : MC} {v : Value} (n : Nat) (h : RC st L w F c v) (hc : okP st c = true) :
    ∃ b p, v = .pointer (some ⟨b, p, none⟩) ∧ RC st L w F (ptrAdd c n) (.pointer (some ⟨b, p + n, none⟩)) := by
  cases c <;> simp [okP] at hc
  case ptr id r f =>
    obtain ⟨b, t, hL, hv⟩ := h.2 hc
    exact ⟨b, _, hv, rfl, fun _ => ⟨b, t, hL, by rw [Nat.add_assoc]⟩⟩
  all_goals
    obtain ⟨b, p, hF, hv, hcs⟩ := h
    refine ⟨b, p, hv, b, _, hF, rfl, fun j c hj => ?_⟩
    rw [List.getElem?_drop] at hj
    obtain ⟨u, hu, hr⟩ := hcs _ c hj
    exact ⟨u, by rw [Nat.add_assoc]; exact hu, hr⟩

theorem ptrAdd_bd {n m : Nat} {c : MC} (h : c.bd n) : (ptrAdd c m).bd n := by cases c <;> first | exact h | trivial

theorem r_fieldAddr {t : TypeId} {x : Operand} {f off ft : Nat} {l : List (Nat × Nat)} {i : TI} {c : MC} (hT : TOk P T) (ho : o.op = .fieldAddr t x f) (hd : Oper.dok o s.m = true)
    (ht : T t = some i) (hk : i.k = .struct l) (hf : l[f]? = some (off, ft)) (hx : evO s x = some (.one c))
    (hc : okP (look s.st) c = true) (k : K (s.put o.dst (.one (ptrAdd c off)))) : OpOK P o s K :=
  OpOK.val (Oper.dok_spec hd) (fun w0 wr A L F a w h => by
    obtain ⟨h1, h2⟩ := evO_ok h hx
    obtain ⟨b, p, hv, hr⟩ := ptr_add off h1 hc
    refine ⟨_, ?_, hr, ?_⟩
    · obtain ⟨fs, hu, hm, hz⟩ := hT.und_struct ht hk
      have hfs : (fs.toList.map (fun f => (f.offset, f.type)))[f]? = some (off, ft) := by rw [hm]; exact hf
      rw [List.getElem?_map] at hfs
      obtain ⟨g, hg, hge⟩ := Option.map_eq_some_iff.1 hfs
      obtain ⟨rfl, rfl⟩ := Prod.mk.inj hge
      have hg' : fs[f]? = some g := by rw [← Array.getElem?_toList]; exact hg
      have hsz : ∀ w, (Go.sizeOf g.type).run P w = .ok (P.cellsOf g.type) w := fun w => by
        have := hz g (List.mem_of_getElem? hg)
        unfold Program.cellsOf at this ⊢
        cases hq : P.info? g.type with
        | none => rw [hq] at this; exact absurd rfl this
        | some q => simp [Go.sizeOf, typeInfo, hq]
      simp [execOp, ho, hv, Instr.fieldAt, run_underlying hu, hg', Instr.sureAddr, fieldPlace, hsz, hz g (List.mem_of_getElem? hg), Addr.add_mid]
    · exact ptrAdd_bd h2) k

end Mg
