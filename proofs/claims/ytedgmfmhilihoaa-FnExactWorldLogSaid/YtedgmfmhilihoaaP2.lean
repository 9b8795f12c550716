/- Parts of the abstract state logic and of the walks, one behind the other: Mg5, Mg6, Mg7. No condition. -/
import Derived.Test.YtedgmfmhilihoaaP1
/- The abstract state logic, part 5: rules for the operations that compute. No condition. -/
namespace Mg
open Go Go.RowKit

variable {P : Program} {T : Tab} {o : Oper} {s : S} {K : S → Prop}

theorem r_move {x : Operand} {v : MV} (ho : o.op = .move x ∨ o.op = .assign x) (hd : Oper.dok o s.m = true) (hx : evO s x = some v) (k : K (s.put o.dst v)) : OpOK P o s K :=
  OpOK.val (Oper.dok_spec hd) (fun w0 wr A L F a w h => by
    obtain ⟨h1, h2⟩ := evO_ok h hx
    refine ⟨a.eval x, ?_, h1, h2⟩
    rcases ho with ho | ho <;> simp [execOp, ho]) k

theorem r_pick {c x y : Operand} {t : Bool} {v : MV} (ho : o.op = .pick c x y) (hd : Oper.dok o s.m = true) (hc : evO s c = some (.one (.sc (.bool t))))
    (hx : (if t = true then evO s x else evO s y) = some v) (k : K (s.put o.dst v)) : OpOK P o s K :=
  OpOK.val (Oper.dok_spec hd) (fun w0 wr A L F a w h => by
    obtain ⟨⟨h1, _⟩, _⟩ := evO_ok h hc
    cases t with
    | true =>
      obtain ⟨h3, h4⟩ := evO_ok h (x := x) (by simpa using hx)
      exact ⟨a.eval x, by simp [execOp, ho, h1, asBool], h3, h4⟩
    | false =>
      obtain ⟨h3, h4⟩ := evO_ok h (x := y) (by simpa using hx)
      exact ⟨a.eval y, by simp [execOp, ho, h1, asBool], h3, h4⟩) k

def binV : BinOp → Value → Value → Option (Prop × Value)
  | .add, .int k a, .int k' b => if k = k' then some (True, .int k (k.wrap (a + b))) else none
  | .sub, .int k a, .int k' b => if k = k' then some (True, .int k (k.wrap (a - b))) else none
  | .mul, .int k a, .int k' b => if k = k' then some (True, .int k (k.wrap (a * b))) else none
  | .quo, .int k a, .int k' b => if k = k' then some (b ≠ 0, .int k (k.wrap (a.tdiv b))) else none
  | .rem, .int k a, .int k' b => if k = k' then some (b ≠ 0, .int k (a.tmod b)) else none
  | .xor, .int k a, .int k' b => if k = k' then some (True, .int k (k.wrap (BitVec.ofInt k.bits a ^^^ BitVec.ofInt k.bits b).toNat)) else none
  | .eql, .int k a, .int k' b => if k = k' then some (True, .bool (a == b)) else none
  | .neq, .int k a, .int k' b => if k = k' then some (True, .bool (a != b)) else none
  | .lss, .int k a, .int k' b => if k = k' then some (True, .bool (decide (a < b))) else none
  | .leq, .int k a, .int k' b => if k = k' then some (True, .bool (decide (a ≤ b))) else none
  | .gtr, .int k a, .int k' b => if k = k' then some (True, .bool (decide (a > b))) else none
  | .geq, .int k a, .int k' b => if k = k' then some (True, .bool (decide (a ≥ b))) else none
  | .add, .string a, .string b => some (((a.size + b.size : Nat) : Int) ≤ 9223372036854775807, .string (a ++ b))
  | .eql, .string a, .string b => some (True, .bool (a.toList == b.toList))
  | .neq, .string a, .string b => some (True, .bool (!(a.toList == b.toList)))
  | _, _, _ => none

theorem binV_ok {op : BinOp} {t : TypeId} {x y : Operand} {u v r : Value} {c : Prop} (h : binV op u v = some (c, r)) (hc : c) (w : World) :
    (do eqGuard op t x y u v; binOp op t u v : Sem Value).run P w = .ok r w ∧ r.oneCell' = true := by
  unfold binV at h
  split at h
  all_goals first
    | (cases h; done)
    | (split at h
       · rename_i hk; subst hk
         obtain ⟨rfl, rfl⟩ := Prod.mk.inj (Option.some.inj h)
         first
           | (refine ⟨?_, rfl⟩; simp [eqGuard, binOp, Op.intArith, Op.intCmp, Op.intBits]; done)
           | (refine ⟨?_, rfl⟩; simp [eqGuard, binOp, Op.intDiv, hc]; done)
       · cases h)
    | (obtain ⟨rfl, rfl⟩ := Prod.mk.inj (Option.some.inj h)
       first
         | (refine ⟨?_, rfl⟩; simp [eqGuard, binOp, Op.stringOp]; done)
         | (refine ⟨?_, rfl⟩; have hc' : ¬ (((‹ByteArray›.size + ‹ByteArray›.size : Nat) : Int) > IntKind.i64.max) := by (simp [IntKind.max, IntKind.signed, IntKind.bits]; omega)
            simp [eqGuard, binOp, Op.stringOp]; done)
         | (refine ⟨?_, rfl⟩; simp [eqGuard, binOp, Op.stringOp, IntKind.max, IntKind.signed, IntKind.bits]; omega))

theorem r_bin {op : BinOp} {t yt : TypeId} {x y : Operand} {u v r : Value} {c : Prop} (ho : o.op = .binOp op t x y yt) (hd : Oper.dok o s.m = true)
    (hx : evO s x = some (.one (.sc u))) (hy : evO s y = some (.one (.sc v))) (hb : binV op u v = some (c, r)) (hc : c) (k : K (s.put o.dst (.one (.sc r)))) : OpOK P o s K :=
  OpOK.val (Oper.dok_spec hd) (fun w0 wr A L F a w h => by
    obtain ⟨⟨h1, _⟩, _⟩ := evO_ok h hx
    obtain ⟨⟨h2, _⟩, _⟩ := evO_ok h hy
    obtain ⟨h3, h4⟩ := binV_ok (P := P) (t := t) (x := x) (y := y) hb hc w
    refine ⟨r, ?_, ⟨rfl, h4⟩, trivial⟩
    simp only [execOp, ho, h1, h2]
    rw [Sem.run_bind, h3]; rfl) k

theorem equal_bool {t : TypeId} (hu : P.underlying t = some .bool) (u v : Bool) (w : World) : (Op.equal t (.bool u) (.bool v)).run P w = .ok (u == v) w := by
  unfold Op.equal
  rw [show Op.maxDepth = Nat.succ 9999 from rfl, Op.equalIn]
  simp only [Sem.run_bind, run_underlying hu w, Result.andThen_ok]
  rfl

theorem r_binb {op : BinOp} {t yt : TypeId} {x y : Operand} {u v r : Bool} {i : TI} (hT : TOk P T) (ho : o.op = .binOp op t x y yt) (hd : Oper.dok o s.m = true)
    (ht : T t = some i) (hk : i.k = .bool)
    (hx : evO s x = some (.one (.sc (.bool u)))) (hy : evO s y = some (.one (.sc (.bool v)))) (hb : (op = .eql ∧ r = (u == v)) ∨ (op = .neq ∧ r = !(u == v)))
    (k : K (s.put o.dst (.one (.sc (.bool r))))) : OpOK P o s K :=
  OpOK.val (Oper.dok_spec hd) (fun w0 wr A L F a w h => by
    obtain ⟨⟨h1, _⟩, _⟩ := evO_ok h hx
    obtain ⟨⟨h2, _⟩, _⟩ := evO_ok h hy
    refine ⟨.bool r, ?_, ⟨rfl, rfl⟩, trivial⟩
    have he := equal_bool (P := P) (hT.und_bool ht hk) u v w
    have hg : ∀ op, (eqGuard op t x y (.bool u) (.bool v)).run P w = .ok () w := fun op => by cases op <;> rfl
    rcases hb with ⟨rfl, rfl⟩ | ⟨rfl, rfl⟩
    all_goals
      simp only [execOp, ho, h1, h2]
      rw [Sem.run_bind, Sem.run_bind, hg]
      simp only [Result.andThen_ok, binOp, Sem.run_bind, he, Sem.run_pure]) k

theorem r_not {t : TypeId} {x : Operand} {b : Bool} (ho : o.op = .unOp .not t x) (hd : Oper.dok o s.m = true) (hx : evO s x = some (.one (.sc (.bool b))))
    (k : K (s.put o.dst (.one (.sc (.bool (!b)))))) : OpOK P o s K :=
  OpOK.val (Oper.dok_spec hd) (fun w0 wr A L F a w h => by
    obtain ⟨⟨h1, _⟩, _⟩ := evO_ok h hx
    exact ⟨.bool (!b), by simp [execOp, ho, h1, Op.unary], ⟨rfl, rfl⟩, trivial⟩) k

theorem r_neg {t : TypeId} {x : Operand} {ik : IntKind} {n : Int} (ho : o.op = .unOp .neg t x) (hd : Oper.dok o s.m = true) (hx : evO s x = some (.one (.sc (.int ik n))))
    (k : K (s.put o.dst (.one (.sc (.int ik (ik.wrap (0 - n))))))) : OpOK P o s K :=
  OpOK.val (Oper.dok_spec hd) (fun w0 wr A L F a w h => by
    obtain ⟨⟨h1, _⟩, _⟩ := evO_ok h hx
    exact ⟨.int ik (ik.wrap (0 - n)), by simp [execOp, ho, h1, Op.unary, Op.intArith], ⟨rfl, rfl⟩, trivial⟩) k

theorem r_conv {t t' : TypeId} {x : Operand} {ik ik' : IntKind} {n : Int} {i i' : TI} (hT : TOk P T) (ho : o.op = .convert t t' x) (hd : Oper.dok o s.m = true)
    (ht : T t = some i) (hk : i.k = .int ik) (ht' : T t' = some i') (hk' : i'.k = .int ik') (hx : evO s x = some (.one (.sc (.int ik n))))
    (k : K (s.put o.dst (.one (.sc (.int ik' (ik'.wrap n)))))) : OpOK P o s K :=
  OpOK.val (Oper.dok_spec hd) (fun w0 wr A L F a w h => by
    obtain ⟨⟨h1, _⟩, _⟩ := evO_ok h hx
    have hu := run_underlying (hT.und_int ht hk)
    have hu' := run_underlying (hT.und_int ht' hk')
    exact ⟨.int ik' (ik'.wrap n), by simp [execOp, ho, h1, convert, hu, hu', Conv.intToInt], ⟨rfl, rfl⟩, trivial⟩) k

/-- A pointer that may be followed. -/
def okP (st : Sto) : MC → Bool
  | .ptr id _ _ => (st id).isSome
  | .fptr _ => true
  | .aptr _ => true
  | _ => false

theorem r_nilCheck {x : Operand} {c : MC} (ho : o.op = .nilCheck x) (hd : Oper.dok o s.m = true) (hx : evO s x = some (.one c))
    (hc : okP (look s.st) c = true) (k : K (s.put o.dst (.one c))) : OpOK P o s K :=
  OpOK.val (Oper.dok_spec hd) (fun w0 wr A L F a w h => by
    obtain ⟨h1, h2⟩ := evO_ok h hx
    refine ⟨a.eval x, ?_, h1, h2⟩
    cases c <;> simp [okP] at hc
    case ptr id r f =>
      obtain ⟨b, t, _, hv⟩ := h1.2 hc
      simp [execOp, ho, hv]
    all_goals
      obtain ⟨b, t, _, hv, _⟩ := h1
      simp [execOp, ho, hv]) k

theorem r_extract {x : Operand} {i : Nat} {vs : List MV} {v : MV} (ho : o.op = .extract x i) (hd : Oper.dok o s.m = true) (hx : evO s x = some (.tup vs)) (hi : vs[i]? = some v)
    (hn : ∀ l, v ≠ .tup l) (k : K (s.put o.dst v)) : OpOK P o s K :=
  OpOK.val (Oper.dok_spec hd) (fun w0 wr A L F a w h => by
    obtain ⟨⟨arr, h1, h3, h4⟩, h2⟩ := evO_ok h hx
    obtain ⟨u, hu, hr⟩ := h4 i v hi
    refine ⟨u, by simp [execOp, ho, h1, Instr.extract, hu], ?_, ?_⟩
    · cases v <;> first | exact hr | exact absurd rfl (hn _)
    · have := h2 v (List.mem_of_getElem? hi)
      cases v <;> first | exact this | exact absurd rfl (hn _)) k

/-- The length of what stands in a slot. -/
def lenV : MV → Option Int
  | .one (.fz rows) => some rows.length
  | .one (.ag rows) => some rows.length
  | .one (.tr _ _ _ rows) => some rows.length
  | .one (.ref _ _ n) => some n
  | .one .nil => some 0
  | _ => none

theorem r_len {x : Operand} {t : TypeId} {e : Nat} {i : TI} {v : MV} {n : Int} (hT : TOk P T) (ho : o.op = .call { callee := .builtin .len, args := #[x], argTypes := #[t] })
    (hd : Oper.dok o s.m = true) (ht : T t = some i) (hk : i.k = .slice e) (hx : evO s x = some v) (hl : lenV v = some n)
    (hs : ∀ id f l, v = .one (.ref id f l) → ∃ rows, look s.st id = some (.arr rows))
    (k : K (s.put o.dst (.one (.sc (.int .i64 n))))) : OpOK P o s K :=
  OpOK.val (Oper.dok_spec hd) (fun w0 wr A L F a w h => by
    obtain ⟨h1, h2⟩ := evO_ok h hx
    have hu := run_underlying (hT.und_slice ht hk)
    have key : ∃ b m c, a.eval x = .slice b m c ∧ (m : Int) = n := by
      unfold lenV at hl
      split at hl
      · obtain rfl := Option.some.inj hl
        obtain ⟨b, c, hv, _⟩ := RF.fz_inv h1
        exact ⟨b, _, c, hv, rfl⟩
      · obtain rfl := Option.some.inj hl
        obtain ⟨b, c, hv, _⟩ := RF.fz_inv h1
        exact ⟨b, _, c, hv, rfl⟩
      · obtain rfl := Option.some.inj hl
        obtain ⟨b, c, hv, _⟩ := RF.fz_inv (h1.2.2.rf (F := fun _ => True) fun _ _ => trivial)
        exact ⟨b, _, c, hv, rfl⟩
      · obtain rfl := Option.some.inj hl
        rename_i id f l
        obtain ⟨rows, hr⟩ := hs id f l rfl
        obtain ⟨b, c, hv, _⟩ := h1.2 rows hr
        exact ⟨b, _, c, hv, rfl⟩
      · obtain rfl := Option.some.inj hl
        obtain ⟨b, hv⟩ := h1
        exact ⟨b, _, _, hv, rfl⟩
      · cases hl
    obtain ⟨b, m, c, hv, rfl⟩ := key
    refine ⟨.int .i64 m, ?_, ⟨rfl, rfl⟩, trivial⟩
    simp [execOp, ho, resolve, invoke, builtin, Builtin.len_, hv, hu, goInt]) k

theorem r_lenstr {x : Operand} {t : TypeId} {i : TI} {b : ByteArray} (hT : TOk P T) (ho : o.op = .call { callee := .builtin .len, args := #[x], argTypes := #[t] })
    (hd : Oper.dok o s.m = true) (ht : T t = some i) (hk : i.k = .str) (hx : evO s x = some (.one (.sc (.string b))))
    (k : K (s.put o.dst (.one (.sc (.int .i64 b.size))))) : OpOK P o s K :=
  OpOK.val (Oper.dok_spec hd) (fun w0 wr A L F a w h => by
    obtain ⟨⟨h1, _⟩, h2⟩ := evO_ok h hx
    have hu := run_underlying (hT.und_str ht hk)
    refine ⟨.int .i64 b.size, ?_, ⟨rfl, rfl⟩, trivial⟩
    simp [execOp, ho, resolve, invoke, builtin, Builtin.len_, h1, hu, goInt]) k

/-- A pointer within a struct. -/
def ptrAdd : MC → Nat → MC
  | .ptr id r f, n => .ptr id r (f + n)
  | .fptr cs, n => .fptr (cs.drop n)
  | .aptr cs, n => .aptr (cs.drop n)
  | c, _ => c

theorem ptr_add {st : Sto} {L : Lay} {w : World} {F : FF} {c : MC} {v : Value} (n : Nat) (h : RC st L w F c v) (hc : okP st c = true) :
    ∃ b p, v = .pointer (some ⟨b, p, none⟩) ∧ RC st L w F (ptrAdd c n) (.pointer (some ⟨b, p + n, none⟩)) := by
  cases c <;> simp [okP] at hc
  case ptr id r f =>
    obtain ⟨b, t, hL, hv⟩ := h.2 hc
    exact ⟨b, _, hv, rfl, fun _ => ⟨b, t, hL, by rw [Nat.add_assoc]⟩⟩
  all_goals
    obtain ⟨b, p, hF, hv, hcs⟩ := h
    refine ⟨b, p, hv, b, _, hF, rfl, fun j c hj => ?_⟩
    rw [List.getElem?_drop] at hj
    obtain ⟨u, hu, hr⟩ := hcs _ c hj
    exact ⟨u, by rw [Nat.add_assoc]; exact hu, hr⟩

theorem ptrAdd_bd {n m : Nat} {c : MC} (h : c.bd n) : (ptrAdd c m).bd n := by cases c <;> first | exact h | trivial

theorem r_fieldAddr {t : TypeId} {x : Operand} {f off ft : Nat} {l : List (Nat × Nat)} {i : TI} {c : MC} (hT : TOk P T) (ho : o.op = .fieldAddr t x f) (hd : Oper.dok o s.m = true)
    (ht : T t = some i) (hk : i.k = .struct l) (hf : l[f]? = some (off, ft)) (hx : evO s x = some (.one c))
    (hc : okP (look s.st) c = true) (k : K (s.put o.dst (.one (ptrAdd c off)))) : OpOK P o s K :=
  OpOK.val (Oper.dok_spec hd) (fun w0 wr A L F a w h => by
    obtain ⟨h1, h2⟩ := evO_ok h hx
    obtain ⟨b, p, hv, hr⟩ := ptr_add off h1 hc
    refine ⟨_, ?_, hr, ?_⟩
    · obtain ⟨fs, hu, hm, hz⟩ := hT.und_struct ht hk
      have hfs : (fs.toList.map (fun f => (f.offset, f.type)))[f]? = some (off, ft) := by rw [hm]; exact hf
      rw [List.getElem?_map] at hfs
      obtain ⟨g, hg, hge⟩ := Option.map_eq_some_iff.1 hfs
      obtain ⟨rfl, rfl⟩ := Prod.mk.inj hge
      have hg' : fs[f]? = some g := by rw [← Array.getElem?_toList]; exact hg
      have hsz : ∀ w, (Go.sizeOf g.type).run P w = .ok (P.cellsOf g.type) w := fun w => by
        have := hz g (List.mem_of_getElem? hg)
        unfold Program.cellsOf at this ⊢
        cases hq : P.info? g.type with
        | none => rw [hq] at this; exact absurd rfl this
        | some q => simp [Go.sizeOf, typeInfo, hq]
      simp [execOp, ho, hv, Instr.fieldAt, run_underlying hu, hg', Instr.sureAddr, fieldPlace, hsz, hz g (List.mem_of_getElem? hg), Addr.add_mid]
    · exact ptrAdd_bd h2) k

end Mg

/- The abstract state logic, part 6: loads, indexes, slices. No condition. -/
namespace Mg
open Go Go.RowKit
set_option linter.unusedVariables false

variable {P : Program} {T : Tab} {o : Oper} {s : S} {K : S → Prop}

/-- The cells from a pointer on. -/
def ptrCells (s : S) : MC → Option (List MC)
  | .ptr id r f => match look s.st id with
    | some (.box cs) => if r = 0 then some (cs.drop f) else none
    | some (.arr rows) => some ((rows.getD r []).drop f)
    | none => none
  | .fptr cs => some cs
  | .aptr cs => some (cs.map MC.toA)
  | _ => none

theorem WC.drop {st : Sto} {L : Lay} {w : World} {F : FF} {b p : Nat} {cs : List MC} (f : Nat) (h : WC st L w F b p cs) : WC st L w F b (p + f) (cs.drop f) := fun j x hj => by
  rw [List.getElem?_drop] at hj
  obtain ⟨u, h1, h2⟩ := h _ x hj
  exact ⟨u, by rw [Nat.add_assoc]; exact h1, h2⟩

theorem ptrCells_ok {w0 : World} {wr : Wr} {A : Nat → Prop} {L : Lay} {F : FF} {a : Act} {w : World} (h : Rl w0 wr A L F s a w) {c : MC} {v : Value} {cs : List MC}
    (hc : RC (look s.st) L w F c v) (hp : ptrCells s c = some cs) : ∃ b p, v = .pointer (some ⟨b, p, none⟩) ∧ WC (look s.st) L w F b p cs ∧ ∀ x ∈ cs, x.bd s.n := by
  cases c with
  | ptr id r f =>
    simp only [ptrCells] at hp
    split at hp
    · rename_i cs0 ho
      split at hp
      · rename_i hr0
        obtain rfl := Option.some.inj hp
        obtain ⟨b, t, hL, hv⟩ := hc.2 (by rw [ho]; rfl)
        obtain ⟨b', t', hL', _, hw⟩ := h.ob id _ ho
        rw [hL] at hL'
        obtain ⟨rfl, rfl⟩ := Prod.mk.inj (Option.some.inj hL')
        refine ⟨b, _, hv, ?_, fun x hx => (h.bst id _ ho).2 x (List.mem_of_mem_drop hx)⟩
        have := hw.drop f
        rwa [hr0, Nat.zero_mul]
      · cases hp
    · rename_i rows ho
      obtain rfl := Option.some.inj hp
      obtain ⟨b, t, hL, hv⟩ := hc.2 (by rw [ho]; rfl)
      refine ⟨b, _, hv, ?_, ?_⟩
      · cases hr : rows[r]? with
        | none =>
          have : rows.getD r [] = [] := by simp [hr]
          rw [this]
          intro j x hj; simp at hj
        | some row =>
          have hg : rows.getD r [] = row := by simp [hr]
          rw [hg]
          rcases h.ob id _ ho with ⟨rfl, _⟩ | ⟨b', t', hL', _, _, hw⟩
          · cases hr
          · rw [hL] at hL'
            obtain ⟨rfl, rfl⟩ := Prod.mk.inj (Option.some.inj hL')
            exact (hw r row hr).drop f
      · intro x hx
        have hx' := List.mem_of_mem_drop hx
        cases hr : rows[r]? with
        | none =>
          have : rows.getD r [] = [] := by simp [hr]
          rw [this] at hx'; cases hx'
        | some row =>
          have hg : rows.getD r [] = row := by simp [hr]
          rw [hg] at hx'
          exact (h.bst id _ ho).2 row (List.mem_of_getElem? hr) x hx'
    · cases hp
  | fptr cs0 =>
    obtain rfl := Option.some.inj hp
    obtain ⟨b, p, _, hv, hcs⟩ := hc
    refine ⟨b, p, hv, fun j x hj => ?_, fun x hx => ?_⟩
    · obtain ⟨u, h1, h2⟩ := hcs j x hj
      exact ⟨u, h1, RC.of_RF h2⟩
    · obtain ⟨j, hj⟩ := List.getElem?_of_mem hx
      obtain ⟨u, _, h2⟩ := hcs j x hj
      exact MC.bd_frz h2.frz
  | aptr cs0 =>
    obtain rfl := Option.some.inj hp
    obtain ⟨b, p, _, hv, hcs⟩ := hc
    have hget : ∀ (j : Nat) (x : MC), (cs0.map MC.toA)[j]? = some x → ∃ y, cs0[j]? = some y ∧ x = y.toA := fun j x hj => by
      rw [List.getElem?_map] at hj
      obtain ⟨y, hy, rfl⟩ := Option.map_eq_some_iff.1 hj
      exact ⟨y, hy, rfl⟩
    refine ⟨b, p, hv, fun j x hj => ?_, fun x hx => ?_⟩
    · obtain ⟨y, hy, rfl⟩ := hget j x hj
      obtain ⟨u, h1, h2⟩ := hcs j y hy
      exact ⟨u, h1, RC.of_RFa h2⟩
    · obtain ⟨j, hj⟩ := List.getElem?_of_mem hx
      obtain ⟨y, hy, rfl⟩ := hget j x hj
      obtain ⟨u, _, h2⟩ := hcs j y hy
      exact MC.bd_toA h2.frz
  | _ => cases hp

def vals (w : World) (b p n : Nat) : List Value := (List.range n).map fun j => (w.cell? ⟨b, p + j, none⟩).getD undef

theorem vals_range {st : Sto} {L : Lay} {w : World} {F : FF} {b p n : Nat} {cs : List MC} (h : WC st L w F b p cs) (hn : n ≤ cs.length) :
    w.rangeAt b p (vals w b p n) ∧ Cells st L w F (cs.take n) (vals w b p n).toArray := by
  have hx : ∀ j, j < n → ∃ x u, cs[j]? = some x ∧ w.cell? ⟨b, p + j, none⟩ = some u ∧ RC st L w F x u := fun j hj => by
    have hj' : j < cs.length := Nat.lt_of_lt_of_le hj hn
    obtain ⟨u, h1, h2⟩ := h j cs[j] (List.getElem?_eq_getElem hj')
    exact ⟨_, u, List.getElem?_eq_getElem hj', h1, h2⟩
  refine ⟨fun j v hj => ?_, ?_, fun j x hj => ?_⟩
  · have hlt : j < n := by
      have := (List.getElem?_eq_some_iff.1 hj).1
      simpa [vals] using this
    obtain ⟨x, u, _, h1, _⟩ := hx j hlt
    have : (vals w b p n)[j]? = some u := by simp [vals, List.getElem?_range hlt, h1]
    rw [this] at hj
    obtain rfl := Option.some.inj hj
    exact h1
  · simp [vals]; omega
  · rw [List.getElem?_take] at hj
    split at hj
    · rename_i hlt
      obtain ⟨x', u, h0, h1, h2⟩ := hx j hlt
      rw [h0] at hj
      obtain rfl := Option.some.inj hj
      exact ⟨u, by simp [vals, List.getElem?_range hlt, h1], h2⟩
    · cases hj

theorem r_load {t : TypeId} {x : Operand} {c : MC} {cs : List MC} {i : TI} (hT : TOk P T) (ho : o.op = .load t x) (hd : Oper.dok o s.m = true)
    (ht : T t = some i) (hk : (match i.k with | .arr _ _ | .struct _ => true | _ => false) = true) (hx : evO s x = some (.one c)) (hp : ptrCells s c = some cs) (hn : i.size ≤ cs.length)
    (k : K (s.put o.dst (.agg (cs.take i.size)))) : OpOK P o s K :=
  OpOK.val (Oper.dok_spec hd) (fun w0 wr A L F a w h => by
    obtain ⟨h1, h2⟩ := evO_ok h hx
    obtain ⟨b, p, hv, hw, hb⟩ := ptrCells_ok h h1 hp
    obtain ⟨hr, hc⟩ := vals_range hw hn
    obtain ⟨d, hu, hrow⟩ := hT.isRow ht hk
    obtain ⟨f, hf, hs, _⟩ := hT.info ht
    refine ⟨_, ?_, ⟨_, rfl, hc⟩, fun y hy => hb y (List.mem_of_mem_take hy)⟩
    simp only [execOp, ho, hv, Sem.run_bind]
    rw [run_loadAt_mid w b p t (vals w b p i.size) d hr hu hrow (by rw [hf]; simp [hs, vals])]
    rfl) k

theorem r_load1 {t : TypeId} {x : Operand} {c : MC} {cs : List MC} {i : TI} (hT : TOk P T) (ho : o.op = .load t x) (hd : Oper.dok o s.m = true)
    (ht : T t = some i) (hk : i.k.agg = false) (hx : evO s x = some (.one c)) (hp : ptrCells s c = some cs) (hn : 0 < cs.length)
    (k : K (s.put o.dst (.one (cs.getD 0 .dead)))) : OpOK P o s K :=
  OpOK.val (Oper.dok_spec hd) (fun w0 wr A L F a w h => by
    obtain ⟨h1, h2⟩ := evO_ok h hx
    obtain ⟨b, p, hv, hw, hb⟩ := ptrCells_ok h h1 hp
    have hg : cs[0]? = some (cs.getD 0 .dead) := by cases cs with | nil => cases hn | cons => rfl
    obtain ⟨u, hu, hr⟩ := hw 0 _ hg
    refine ⟨u, ?_, hr, hb _ (List.mem_of_getElem? hg)⟩
    have hu' : w.cell? ⟨b, p, none⟩ = some u := hu
    simp only [execOp, ho, hv, Sem.run_bind, Instr.loadAt, Instr.sureAddr, Sem.run_pure, Result.andThen_ok, loadVar, hT.isAgg ht hk, Bool.false_eq_true, if_false, run_load, hu']) k

/-- A frozen slice, and its element's pointer. -/
def fzRows : MC → Option (List (List MC))
  | .fz rows => some rows
  | .ag rows => some rows
  | .tr _ _ _ rows => some rows
  | _ => none
def fzPtr : MC → List MC → MC
  | .ag _, cs => .aptr cs
  | .tr _ _ _ _, cs => .aptr cs
  | _, cs => .fptr cs
def fzMk : MC → List (List MC) → MC
  | .ag _, r => .ag r
  | .tr _ _ _ _, r => .ag r
  | _, r => .fz r

theorem fz_any {st : Sto} {L : Lay} {w : World} {F : FF} {c : MC} {v : Value} {rows : List (List MC)} (h : RC st L w F c v) (hc : fzRows c = some rows) :
    ∃ G : Nat → Prop, RF w G (.fz rows) v ∧ (∀ b o cells, G b → (∀ j x, cells[j]? = some x → ∃ u, w.cell? ⟨b, o + j, none⟩ = some u ∧ RF w G x u) → RC st L w F (fzPtr c cells) (.pointer (some ⟨b, o, none⟩))) ∧
      ∀ r u, RF w G (.fz r) u → RC st L w F (fzMk c r) u := by
  cases c <;> simp [fzRows] at hc
  · subst hc; exact ⟨F.n, h, fun b o cells hG hx => ⟨b, o, hG, rfl, hx⟩, fun r u hu => hu⟩
  · subst hc; exact ⟨F.all, h, fun b o cells hG hx => ⟨b, o, hG, rfl, hx⟩, fun r u hu => hu⟩
  · subst hc; exact ⟨F.all, h.2.2.rf fun b hb => (h.2.1 b hb).1, fun b o cells hG hx => ⟨b, o, hG, rfl, hx⟩, fun r u hu => hu⟩

/-- A slice's element: where it stands. -/
theorem r_indexF {t e : TypeId} {x y : Operand} {c : MC} {rows : List (List MC)} {row : List MC} {ik : IntKind} {n : Int} {i ie : TI} (hT : TOk P T) (ho : o.op = .indexAddr t x y) (hd : Oper.dok o s.m = true)
    (ht : T t = some i) (hk : i.k = .slice e) (he : T e = some ie) (hx : evO s x = some (.one c)) (hc : fzRows c = some rows) (hy : evO s y = some (.one (.sc (.int ik n))))
    (hn : 0 ≤ n) (hrow : rows[n.toNat]? = some row) (hl : row.length = ie.size) (k : K (s.put o.dst (.one (fzPtr c row)))) : OpOK P o s K :=
  OpOK.val (Oper.dok_spec hd) (fun w0 wr A L F a w h => by
    obtain ⟨h1, _⟩ := evO_ok h hx
    obtain ⟨⟨h2, _⟩, _⟩ := evO_ok h hy
    obtain ⟨G, hG, hG1, _⟩ := fz_any h1 hc
    obtain ⟨b, cap, hv, _, hb⟩ := RF.fz_inv hG
    have hlt : n.toNat < rows.length := (List.getElem?_eq_some_iff.1 hrow).1
    obtain ⟨blk, off, st, rfl, hF, hs, hcs⟩ := hb (by intro e; subst e; simp at hlt)
    have hst : st = ie.size := by rw [← hs _ (List.mem_of_getElem? hrow)]; exact hl
    subst hst
    have hn1 : n < rows.length := by omega
    refine ⟨.pointer (some ⟨blk, off + n.toNat * ie.size, none⟩), ?_, hG1 _ _ _ hF (fun j c hj => ?_), ?_⟩
    · have hu := run_underlying (hT.und_slice ht hk)
      have hz := hT.size he
      simp [execOp, ho, hv, h2, Instr.indexAt, asIntOf, hu, hz, hn, hn1, Addr.add_mid]
    · obtain ⟨u, hu, hr⟩ := hcs _ j _ c hrow hj
      exact ⟨u, by rw [Nat.add_assoc]; exact hu, hr⟩
    · cases c <;> simp [fzRows] at hc <;> trivial) k

theorem ref_row {w0 : World} {wr : Wr} {A : Nat → Prop} {L : Lay} {F : FF} {a : Act} {w : World} (h : Rl w0 wr A L F s a w) {id off len : Nat} {rows : List (List MC)} {v : Value}
    (hr : RC (look s.st) L w F (.ref id off len) v) (ho : look s.st id = some (.arr rows)) (hl : len ≠ 0) :
    ∃ b st cap, L id = some (b, st) ∧ v = .slice (some ⟨b, off * st, none⟩) len cap ∧ off + len ≤ rows.length ∧ len ≤ cap ∧ (∀ j, j < (off + cap) * st → (w.cell? ⟨b, j, none⟩).isSome = true) ∧
      Free w b ∧ (∀ r ∈ rows, r.length = st) ∧ ∀ (i : Nat) (r : List MC), rows[i]? = some r → WC (look s.st) L w F b (i * st) r := by
  obtain ⟨a, cap, hv, hle, hx⟩ := hr.2 rows ho
  rcases hx with ⟨b, st, hL, rfl, hc, _, hj⟩ | ⟨h0, _⟩
  · rcases h.ob id _ ho with ⟨rfl, hn⟩ | ⟨b', st', hL', hf, hs, hw⟩
    · rw [hL] at hn; cases hn
    · rw [hL] at hL'
      obtain ⟨rfl, rfl⟩ := Prod.mk.inj (Option.some.inj hL')
      exact ⟨b, st, cap, hL, hv, hle, hc, hj, hf, hs, hw⟩
  · exact absurd h0 hl

theorem r_indexR {t e : TypeId} {x y : Operand} {id off len : Nat} {rows : List (List MC)} {ik : IntKind} {n : Int} {i ie : TI} (hT : TOk P T) (ho : o.op = .indexAddr t x y) (hd : Oper.dok o s.m = true)
    (ht : T t = some i) (hk : i.k = .slice e) (he : T e = some ie) (hx : evO s x = some (.one (.ref id off len))) (hy : evO s y = some (.one (.sc (.int ik n))))
    (hr : look s.st id = some (.arr rows)) (hn : 0 ≤ n ∧ n < len) {row : List MC} (hrow : rows[off + n.toNat]? = some row) (hl : row.length = ie.size) (k : K (s.put o.dst (.one (.ptr id (off + n.toNat) 0)))) : OpOK P o s K :=
  OpOK.val (Oper.dok_spec hd) (fun w0 wr A L F a w h => by
    obtain ⟨h1, hb1⟩ := evO_ok h hx
    obtain ⟨⟨h2, _⟩, _⟩ := evO_ok h hy
    obtain ⟨b, st, cap, hL, hv, hle, hc, hj, hf, hs, hw⟩ := ref_row h h1 hr (by omega)
    have hst : st = ie.size := by rw [← hs _ (List.mem_of_getElem? hrow)]; exact hl
    subst hst
    refine ⟨.pointer (some ⟨b, off * ie.size + n.toNat * ie.size, none⟩), ?_, ⟨rfl, fun _ => ⟨b, _, hL, by rw [Nat.add_mul]; rfl⟩⟩, hb1⟩
    have hu := run_underlying (hT.und_slice ht hk)
    have hz := hT.size he
    simp [execOp, ho, hv, h2, Instr.indexAt, asIntOf, hu, hz, hn.1, hn.2, Addr.add_mid]) k

theorem r_indexA {t e m : TypeId} {x y : Operand} {c : MC} {ik : IntKind} {n : Int} {i ie : TI} (hT : TOk P T) (ho : o.op = .indexAddr t x y) (hd : Oper.dok o s.m = true)
    (ht : T t = some i) (hk : i.k = .arr m e) (he : T e = some ie) (hx : evO s x = some (.one c)) (hy : evO s y = some (.one (.sc (.int ik n))))
    (hc : okP (look s.st) c = true) (hn : 0 ≤ n ∧ n < m) (k : K (s.put o.dst (.one (ptrAdd c (n.toNat * ie.size))))) : OpOK P o s K :=
  OpOK.val (Oper.dok_spec hd) (fun w0 wr A L F a w h => by
    obtain ⟨h1, hb1⟩ := evO_ok h hx
    obtain ⟨⟨h2, _⟩, _⟩ := evO_ok h hy
    obtain ⟨b, p, hv, hr⟩ := ptr_add (n.toNat * ie.size) h1 hc
    refine ⟨_, ?_, hr, ?_⟩
    · have hu := run_underlying (hT.und_arr ht hk)
      have hz := hT.size he
      simp [execOp, ho, hv, h2, Instr.indexAt, Instr.sureAddr, asIntOf, hu, hz, hn.1, hn.2, Addr.add_mid]
    · exact ptrAdd_bd hb1) k

/-- An int at the place of a slice's bound, or the bound that is meant. -/
def bnd (s : S) (d : Int) : Option Operand → Option Int
  | none => some d
  | some x => match evO s x with
    | some (.one (.sc (.int _ n))) => some n
    | _ => none

theorem bnd_ok {w0 : World} {wr : Wr} {A : Nat → Prop} {L : Lay} {F : FF} {a : Act} {w : World} (h : Rl w0 wr A L F s a w) {d n : Int} {x : Option Operand} (hb : bnd s d x = some n) :
    (x = none ∧ n = d) ∨ ∃ y ik, x = some y ∧ a.eval y = .int ik n := by
  cases x with
  | none => exact .inl ⟨rfl, (Option.some.inj hb).symm⟩
  | some y =>
    simp only [bnd] at hb
    split at hb
    · rename_i ik m he
      obtain rfl := Option.some.inj hb
      obtain ⟨⟨h1, _⟩, _⟩ := evO_ok h he
      exact .inr ⟨y, ik, rfl, h1⟩
    · cases hb

theorem run_sliceBounds {a : Act} {w : World} {len cap : Nat} {lo hi : Option Operand} {l h : Int}
    (hl : (lo = none ∧ l = 0) ∨ ∃ y ik, lo = some y ∧ a.eval y = .int ik l) (hh : (hi = none ∧ h = len) ∨ ∃ y ik, hi = some y ∧ a.eval y = .int ik h) (h0 : 0 ≤ l) (h1 : l ≤ h) (h2 : h ≤ cap) (hc : len ≤ cap) :
    (Instr.sliceBounds true len cap (lo.map a.eval) (hi.map a.eval) none).run P w = .ok (l.toNat, h.toNat, cap) w := by
  have h3 : (0 : Int) ≤ h := by omega
  have hb : ∀ (ik : IntKind) (n : Int) (m : Nat) (cd : BoundsCode), 0 ≤ n → n ≤ m → (Instr.sliceBound (.int ik n) m cd).run P w = .ok n.toNat w := fun ik n m cd p q => by
    simp [Instr.sliceBound, asIntOf, p, q]
  have hh' : (h.toNat : Int) = h := by omega
  rcases hl with ⟨rfl, rfl⟩ | ⟨y, ik, rfl, ey⟩ <;> rcases hh with ⟨rfl, rfl⟩ | ⟨z, ik', rfl, ez⟩
  · simp [Instr.sliceBounds]
  · simp [Instr.sliceBounds, ez, hb _ _ _ _ h3 h2]
  · simp [Instr.sliceBounds, ey, hb _ _ _ _ h0 h1]
  · simp [Instr.sliceBounds, ey, ez, hb _ _ _ _ h3 h2, hb ik l h.toNat .sliceB h0 (by omega)]

theorem r_sliceF {t e : TypeId} {x : Operand} {lo hi : Option Operand} {rows : List (List MC)} {l h : Int} {i ie : TI} (hT : TOk P T) (ho : o.op = .slice t x lo hi none) (hd : Oper.dok o s.m = true)
    (ht : T t = some i) (hk : i.k = .slice e) (he : T e = some ie) {c : MC} (hx : evO s x = some (.one c)) (hc : fzRows c = some rows) (hl : bnd s 0 lo = some l) (hh : bnd s rows.length hi = some h)
    (hn : 0 ≤ l ∧ l ≤ h ∧ h ≤ rows.length) (hz : ∀ r ∈ rows, r.length = ie.size) (k : K (s.put o.dst (.one (fzMk c ((rows.take h.toNat).drop l.toNat))))) : OpOK P o s K :=
  OpOK.val (Oper.dok_spec hd) (fun w0 wr A L F a w hr => by
    obtain ⟨h1, _⟩ := evO_ok hr hx
    obtain ⟨G, hG, _, hG2⟩ := fz_any h1 hc
    obtain ⟨b, cap, hv, hcap, hb⟩ := RF.fz_inv hG
    have hsb := run_sliceBounds (P := P) (w := w) (cap := cap) (bnd_ok hr hl) (bnd_ok hr hh) hn.1 hn.2.1 (by omega) hcap
    have hu := run_underlying (hT.und_slice ht hk)
    refine ⟨.slice (if cap = l.toNat then b else b.map (·.add (l.toNat * ie.size))) (h.toNat - l.toNat) (cap - l.toNat), ?_, hG2 _ _ ?_, by cases c <;> simp [fzRows] at hc <;> trivial⟩
    · simp [execOp, ho, hv, Instr.sliceAt, Instr.slice, hu, hT.size he, hsb]
    · have hlen : ((rows.take h.toNat).drop l.toNat).length = h.toNat - l.toNat := by simp; omega
      rw [← hlen]
      refine RF.mk (by rw [hlen]; omega) (fun hne => ?_)
      have hpos : 0 < h.toNat - l.toNat := by rw [← hlen]; exact List.length_pos_iff.2 hne
      obtain ⟨blk, off, st, rfl, hF, hs, hcs⟩ := hb (by intro e; subst e; simp at hn; omega)
      rw [if_neg (by omega)]
      have hr0 : rows[0]? = some (rows.getD 0 []) := by
        have : 0 < rows.length := by omega
        simp [List.getElem?_eq_getElem this]
      have hst : st = ie.size := by rw [← hs _ (List.mem_of_getElem? hr0)]; exact hz _ (List.mem_of_getElem? hr0)
      subst hst
      refine ⟨blk, off + l.toNat * ie.size, ie.size, by simp [Addr.add_mid], hF, fun r hr' => hz r (List.mem_of_mem_take (List.mem_of_mem_drop hr')), fun p j r c hp hj => ?_⟩
      rw [List.getElem?_drop, List.getElem?_take] at hp
      split at hp
      · obtain ⟨u, h1, h2⟩ := hcs _ j r c hp hj
        refine ⟨u, ?_, h2⟩
        rw [← h1]
        congr 2
        rw [Nat.add_mul]; omega
      · cases hp) k

theorem r_sliceR {t e : TypeId} {x : Operand} {lo hi : Option Operand} {id off len : Nat} {rows : List (List MC)} {l h : Int} {i ie : TI} (hT : TOk P T) (ho : o.op = .slice t x lo hi none) (hd : Oper.dok o s.m = true)
    (ht : T t = some i) (hk : i.k = .slice e) (he : T e = some ie) (hx : evO s x = some (.one (.ref id off len))) (hr : look s.st id = some (.arr rows)) (hl : bnd s 0 lo = some l) (hh : bnd s len hi = some h)
    (hn : 0 ≤ l ∧ l ≤ h ∧ h ≤ len) (hz : ∀ r ∈ rows, r.length = ie.size) (k : K (s.put o.dst (.one (.ref id (off + l.toNat) (h.toNat - l.toNat))))) : OpOK P o s K :=
  OpOK.val (Oper.dok_spec hd) (fun w0 wr A L F a w hR => by
    obtain ⟨h1, hb1⟩ := evO_ok hR hx
    have hu := run_underlying (hT.und_slice ht hk)
    obtain ⟨b, cap, hv, hle, hx'⟩ := h1.2 rows hr
    have hcap : len ≤ cap := by rcases hx' with ⟨_, _, _, _, hc, _, _⟩ | ⟨h0, _⟩ <;> omega
    have hsb := run_sliceBounds (P := P) (w := w) (cap := cap) (bnd_ok hR hl) (bnd_ok hR hh) hn.1 hn.2.1 (by omega) hcap
    refine ⟨.slice (if cap = l.toNat then b else b.map (·.add (l.toNat * ie.size))) (h.toNat - l.toNat) (cap - l.toNat), ?_, ⟨rfl, fun rows' hr' => ?_⟩, hb1⟩
    · simp [execOp, ho, hv, Instr.sliceAt, Instr.slice, hu, hT.size he, hsb]
    · rw [hr] at hr'
      obtain rfl : rows = rows' := by simpa using hr'
      refine ⟨_, _, rfl, by omega, ?_⟩
      rcases hx' with ⟨blk, st, hL, rfl, hc, hre, hj⟩ | ⟨h0, h00⟩
      · by_cases hcl : cap = l.toNat
        · exact .inr (by omega)
        · rw [if_neg hcl]
          · have hr0 : rows[0]? = some (rows.getD 0 []) := by
              have : 0 < rows.length := List.length_pos_iff.2 hre
              simp [List.getElem?_eq_getElem this]
            rcases hR.ob id _ hr with ⟨hr0', _⟩ | ⟨b', st', hL', _, hs, _⟩
            · exact absurd hr0' hre
            · rw [hL] at hL'
              obtain ⟨rfl, rfl⟩ := Prod.mk.inj (Option.some.inj hL')
              have hst : st = ie.size := by rw [← hs _ (List.mem_of_getElem? hr0)]; exact hz _ (List.mem_of_getElem? hr0)
              subst hst
              refine .inl ⟨blk, ie.size, hL, by simp [Addr.add_mid, Nat.add_mul], by omega, hre, fun j hj' => hj j ?_⟩
              rw [show off + l.toNat + (cap - l.toNat) = off + cap by omega] at hj'
              exact hj'
      · exact .inr (by omega)) k

end Mg

/- The abstract state logic, part 7: what builds values, makes blocks, stores. No condition. -/
namespace Mg
open Go Go.RowKit
set_option linter.unusedVariables false

variable {P : Program} {T : Tab} {o : Oper} {s : S} {K : S → Prop}

def mvCells : MV → Option (List MC)
  | .one c => some [c]
  | .agg cs => some cs
  | _ => none

theorem mvCells_ok {st : Sto} {L : Lay} {w : World} {F : FF} {n : Nat} {v : MV} {u : Value} {cs : List MC} (h : RV st L w F v u) (hb : v.bd n) (hc : mvCells v = some cs) :
    Cells st L w F cs u.cells ∧ ∀ x ∈ cs, x.bd n := by
  cases v with
  | one c =>
    obtain rfl := Option.some.inj hc
    have h : RC st L w F c u := h
    have h1 := h.one
    have : u.cells = #[u] := by cases u <;> first | rfl | (simp [Value.oneCell'] at h1)
    rw [this]
    refine ⟨⟨rfl, fun j x hj => ?_⟩, fun x hx => by simp at hx; subst hx; exact hb⟩
    cases j with
    | zero => obtain rfl := Option.some.inj hj; exact ⟨u, rfl, h⟩
    | succ j => simp at hj
  | agg cs' =>
    obtain rfl := Option.some.inj hc
    obtain ⟨arr, rfl, ha⟩ := h
    exact ⟨ha, hb⟩
  | _ => cases hc

def putAt (cells : List MC) (off : Nat) (cs : List MC) : List MC := cells.take off ++ cs ++ cells.drop (off + cs.length)

theorem putAt_get (cells cs : List MC) (off : Nat) (h : off + cs.length ≤ cells.length) (j : Nat) :
    (putAt cells off cs)[j]? = if off ≤ j ∧ j < off + cs.length then cs[j - off]? else cells[j]? := by
  have ht : (cells.take off).length = off := by simp; omega
  unfold putAt
  by_cases h1 : j < off
  · rw [if_neg (by omega), List.append_assoc, List.getElem?_append_left (by omega), List.getElem?_take, if_pos h1]
  · rw [List.append_assoc, List.getElem?_append_right (by omega), ht]
    by_cases h2 : j < off + cs.length
    · rw [if_pos (by omega), List.getElem?_append_left (by omega)]
    · rw [if_neg (by omega), List.getElem?_append_right (by omega), List.getElem?_drop]
      congr 1; omega
theorem putAt_len (cells cs : List MC) (off : Nat) (h : off + cs.length ≤ cells.length) : (putAt cells off cs).length = cells.length := by
  simp [putAt]; omega
theorem putAt_mem {cells cs : List MC} {off : Nat} {x : MC} (h : x ∈ putAt cells off cs) : x ∈ cells ∨ x ∈ cs := by
  simp only [putAt, List.mem_append] at h
  rcases h with (h | h) | h
  · exact .inl (List.mem_of_mem_take h)
  · exact .inr h
  · exact .inl (List.mem_of_mem_drop h)

theorem foldl_zip (off : Nat) : ∀ (l : List Value) (m : Nat) (cells : Array Value),
    ((l.zipIdx m).foldl (fun (cs : Array Value) (x : Value × Nat) => cs.setIfInBounds (off + x.2) x.1) cells).size = cells.size ∧
    ∀ k, off + m + l.length ≤ cells.size → ((l.zipIdx m).foldl (fun (cs : Array Value) (x : Value × Nat) => cs.setIfInBounds (off + x.2) x.1) cells)[k]? =
      if off + m ≤ k ∧ k < off + m + l.length then l[k - (off + m)]? else cells[k]?
  | [], m, cells => ⟨rfl, fun k _ => by simp; omega⟩
  | v :: l, m, cells => by
    obtain ⟨h1, h2⟩ := foldl_zip off l (m + 1) (cells.setIfInBounds (off + m) v)
    refine ⟨by simpa using h1, fun k hk => ?_⟩
    simp only [List.zipIdx_cons, List.foldl_cons]
    simp only [List.length_cons] at hk
    rw [h2 k (by simp; omega)]
    by_cases h3 : off + (m + 1) ≤ k ∧ k < off + (m + 1) + l.length
    · rw [if_pos h3, if_pos (by simp; omega), show k - (off + m) = (k - (off + (m + 1))) + 1 by omega]
      rfl
    · rw [if_neg h3]
      by_cases h4 : k = off + m
      · subst h4
        rw [if_pos (by simp), Array.getElem?_setIfInBounds_self]
        simp; omega
      · rw [if_neg (by simp; omega), Array.getElem?_setIfInBounds_ne (by omega)]

theorem Cells.putAt {st : Sto} {L : Lay} {w : World} {F : FF} {cells cs : List MC} {arr vs : Array Value} {off : Nat} (h : Cells st L w F cells arr) (hv : Cells st L w F cs vs) (hl : off + cs.length ≤ cells.length) :
    Cells st L w F (putAt cells off cs) (vs.zipIdx.foldl (fun cs (c, j) => cs.setIfInBounds (off + j) c) arr) := by
  have e : vs.zipIdx.foldl (fun (cs : Array Value) (x : Value × Nat) => cs.setIfInBounds (off + x.2) x.1) arr =
      (vs.toList.zipIdx 0).foldl (fun (cs : Array Value) (x : Value × Nat) => cs.setIfInBounds (off + x.2) x.1) arr := by
    rw [← Array.foldl_toList]; simp
  obtain ⟨h1, h2⟩ := foldl_zip off vs.toList 0 arr
  have hvl : vs.toList.length = cs.length := by simpa using hv.1
  show Cells st L w F (Mg.putAt cells off cs) (vs.zipIdx.foldl (fun (cs : Array Value) (x : Value × Nat) => cs.setIfInBounds (off + x.2) x.1) arr)
  rw [e]
  refine ⟨by rw [h1, h.1, putAt_len _ _ _ hl], fun j x hj => ?_⟩
  rw [h2 j (by rw [hvl, h.1]; omega)]
  rw [putAt_get _ _ _ hl] at hj
  by_cases hc : off ≤ j ∧ j < off + cs.length
  · rw [if_pos hc] at hj
    rw [if_pos (by omega)]
    obtain ⟨u, hu, hr⟩ := hv.2 _ x hj
    exact ⟨u, by simpa using hu, hr⟩
  · rw [if_neg hc] at hj
    rw [if_neg (by omega)]
    exact h.2 j x hj

def fillM (s : S) (T : Tab) (place : Nat → Option (Nat × Nat)) : List MC → List (Nat × Operand) → Option (Prop × List MC)
  | cells, [] => some (True, cells)
  | cells, (i, x) :: rest => match place i, (evO s x).bind mvCells with
    | some (off, sz), some cs => (fillM s T place (putAt cells off cs) rest).map fun q => ((cs.length = sz ∧ off + cs.length ≤ cells.length) ∧ q.1, q.2)
    | _, _ => none

theorem fill_ok {w0 : World} {wr : Wr} {A : Nat → Prop} {L : Lay} {F : FF} {a : Act} {w : World} (h : Rl w0 wr A L F s a w) (place : Nat → Option (Nat × Nat)) :
    ∀ (parts : List (Nat × Operand)) (cells : List MC) (arr : Array Value) (p : Prop) (res : List MC), fillM s T place cells parts = some (p, res) → p →
      Cells (look s.st) L w F cells arr → (∀ x ∈ cells, x.bd s.n) →
      ∃ arr', Instr.fill place arr (parts.map fun (i, x) => (i, a.eval x)) = some arr' ∧ Cells (look s.st) L w F res arr' ∧ ∀ x ∈ res, x.bd s.n
  | [], cells, arr, p, res, hf, hp, hc, hb => by
    obtain ⟨rfl, rfl⟩ := Prod.mk.inj (Option.some.inj hf)
    exact ⟨arr, rfl, hc, hb⟩
  | (i, x) :: rest, cells, arr, p, res, hf, hp, hc, hb => by
    simp only [fillM] at hf
    split at hf
    · rename_i off sz cs hpl hcs
      obtain ⟨q, hq, hqe⟩ := Option.map_eq_some_iff.1 hf
      obtain ⟨rfl, rfl⟩ := Prod.mk.inj hqe
      obtain ⟨⟨h1, h2⟩, h3⟩ := hp
      obtain ⟨v, hv, hm⟩ := Option.bind_eq_some_iff.1 hcs
      obtain ⟨hr, hbd⟩ := evO_ok h hv
      obtain ⟨hcv, hbv⟩ := mvCells_ok hr hbd hm
      have hsz : (a.eval x).cells.size = cs.length := hcv.1
      obtain ⟨arr', e1, e2, e3⟩ := fill_ok h place rest (Mg.putAt cells off cs) _ q.1 q.2 (by rw [hq]) h3 (hc.putAt hcv h2) (fun y hy => by
        rcases putAt_mem hy with hy | hy
        · exact hb y hy
        · exact hbv y hy)
      refine ⟨arr', ?_, e2, e3⟩
      simp only [List.map_cons, Instr.fill, hpl]
      rw [if_neg (by rw [hsz, hc.1]; simp; omega)]
      exact e1
    · cases hf

theorem zc_ok {st : Sto} {L : Lay} {w : World} {F : FF} : ∀ (zs : List ZC) (vs : List Value), zcells zs vs = true → Cells st L w F (zs.map ZC.mc) vs.toArray
  | [], [], _ => ⟨rfl, fun j x hj => by simp at hj⟩
  | z :: zs, v :: vs, h => by
    simp only [zcells, Bool.and_eq_true] at h
    have ih := zc_ok (st := st) (L := L) (w := w) (F := F) zs vs h.2
    refine ⟨by have := ih.1; simp at this ⊢; omega, fun j x hj => ?_⟩
    cases j with
    | zero =>
      obtain rfl : z.mc = x := by simpa using hj
      refine ⟨v, by simp, ?_⟩
      have h1 := h.1
      cases z <;> cases v <;> simp [ZC.ok] at h1
      · obtain ⟨rfl, rfl⟩ := h1; exact ⟨rfl, rfl⟩
      · subst h1; exact ⟨rfl, rfl⟩
      · refine ⟨?_, rfl⟩
        rename_i b
        obtain ⟨d⟩ := b
        congr 1
      · obtain ⟨rfl, rfl⟩ := h1; exact ⟨_, rfl⟩
      · rename_i p
        cases p with
        | none => exact ⟨rfl, rfl⟩
        | some p => simp at h1
    | succ j =>
      obtain ⟨u, hu, hr⟩ := ih.2 j x (by simpa using hj)
      exact ⟨u, by simpa using hu, hr⟩
  | [], _ :: _, h => by cases h
  | _ :: _, [], h => by cases h

theorem zmc_bd (zs : List ZC) (n : Nat) : ∀ x ∈ zs.map ZC.mc, x.bd n := by
  intro x hx
  obtain ⟨z, _, rfl⟩ := List.mem_map.1 hx
  cases z <;> trivial

theorem TOk.zero {T : Tab} (h : TOk P T) {t : Nat} {i : TI} (ht : T t = some i) : ∃ z, (∀ w, (zeroValue t).run P w = Result.ok z w) ∧ zcells i.z z.cells.toList = true := by
  obtain ⟨f, hf, _, _, _, z, hz, hc, _⟩ := h.info ht
  exact ⟨z, fun w => by simp [zeroValue, typeInfo, hf, hz], hc⟩

theorem r_build {t : TypeId} {parts : Array (Nat × Operand)} {l : List (Nat × Nat)} {i : TI} {p : Prop} {res : List MC} (hT : TOk P T) (ho : o.op = .build t parts) (hd : Oper.dok o s.m = true)
    (ht : T t = some i) (hk : i.k = .struct l) (hf : fillM s T (fun j => (l[j]?).bind fun q => (T q.2).map fun fi => (q.1, fi.size)) (i.z.map ZC.mc) parts.toList = some (p, res)) (hp : p)
    (hl : ∀ q ∈ l, (T q.2).isSome = true) (k : K (s.put o.dst (.agg res))) : OpOK P o s K :=
  OpOK.val (Oper.dok_spec hd) (fun w0 wr A L F a w h => by
    obtain ⟨z, hz, hzc⟩ := hT.zero ht
    obtain ⟨fs, hu, hm, hnz⟩ := hT.und_struct ht hk
    obtain ⟨arr, e1, e2, e3⟩ := fill_ok (T := T) h _ parts.toList _ z.cells p res hf hp (zc_ok _ _ hzc) (zmc_bd _ _)
    refine ⟨.agg arr, ?_, ⟨arr, rfl, e2⟩, e3⟩
    have hpl : ∀ (gs : List Field), (∀ g ∈ gs, (T g.type).isSome = true) → ∀ w, (gs.mapM (fun f => (do pure (f.offset, ← Go.sizeOf f.type) : Sem (Nat × Nat)))).run P w =
        Result.ok (gs.map fun f => (f.offset, ((T f.type).map (·.size)).getD 0)) w := by
      intro gs
      induction gs with
      | nil => intro _ w; rfl
      | cons g gs ih =>
        intro hg w
        obtain ⟨gi, hgi⟩ := Option.isSome_iff_exists.1 (hg g (by simp))
        simp only [List.mapM_cons, Sem.run_bind, hT.size hgi, Result.andThen_ok, Sem.run_pure, ih (fun q hq => hg q (by simp [hq])), List.map_cons, hgi]
        rfl
    have hpl' := hpl fs.toList (fun g hg => by
      have : (g.offset, g.type) ∈ l := by rw [← hm]; exact List.mem_map.2 ⟨g, hg, rfl⟩
      exact hl _ this)
    have hpa : (fs.mapM (fun f => (do pure (f.offset, ← Go.sizeOf f.type) : Sem (Nat × Nat)))).run P w = Result.ok (fs.toList.map fun f => (f.offset, ((T f.type).map (·.size)).getD 0)).toArray w := by
      obtain ⟨fl⟩ := fs
      rw [List.mapM_toArray, Sem.run_map, hpl']; rfl
    have hplace : (fun (j : Nat) => ((fs.toList.map fun f => (f.offset, ((T f.type).map (·.size)).getD 0)).toArray)[j]?) = (fun (j : Nat) => (l[j]?).bind fun (q : Nat × Nat) => (T q.2).map fun fi => (q.1, fi.size)) := by
      funext j
      rw [← hm]
      simp only [List.getElem?_toArray, List.getElem?_map]
      cases hj : fs.toList[j]? with
      | none => simp
      | some g =>
        have : (g.offset, g.type) ∈ l := by rw [← hm]; exact List.mem_map.2 ⟨g, List.mem_of_getElem? hj, rfl⟩
        obtain ⟨gi, hgi⟩ := Option.isSome_iff_exists.1 (hl _ this)
        simp at hgi
        simp [hgi]
    simp only [execOp, ho, Sem.run_bind, Instr.build, hz, Result.andThen_ok, run_underlying hu]
    rw [hpa]
    simp only [Result.andThen_ok]
    have e1' : Instr.fill (fun (j : Nat) => ((fs.toList.map fun f => (f.offset, ((T f.type).map (·.size)).getD 0)).toArray)[j]?) z.cells (parts.map fun x => (x.1, a.eval x.2)).toList = some arr := by
      rw [hplace]; simpa using e1
    rw [e1']
    rfl) k

theorem r_buildA {t e m : TypeId} {parts : Array (Nat × Operand)} {i ie : TI} {p : Prop} {res : List MC} (hT : TOk P T) (ho : o.op = .build t parts) (hd : Oper.dok o s.m = true)
    (ht : T t = some i) (hk : i.k = .arr m e) (he : T e = some ie) (hf : fillM s T (fun j => some (j * ie.size, ie.size)) (i.z.map ZC.mc) parts.toList = some (p, res)) (hp : p)
    (k : K (s.put o.dst (.agg res))) : OpOK P o s K :=
  OpOK.val (Oper.dok_spec hd) (fun w0 wr A L F a w h => by
    obtain ⟨z, hz, hzc⟩ := hT.zero ht
    have hu := run_underlying (hT.und_arr ht hk)
    obtain ⟨arr, e1, e2, e3⟩ := fill_ok (T := T) h _ parts.toList _ z.cells p res hf hp (zc_ok _ _ hzc) (zmc_bd _ _)
    refine ⟨.agg arr, ?_, ⟨arr, rfl, e2⟩, e3⟩
    simp only [execOp, ho, Sem.run_bind, Instr.build, hz, Result.andThen_ok, hu, hT.size he]
    have e1' : Instr.fill (fun (j : Nat) => some (j * ie.size, ie.size)) z.cells (parts.map fun x => (x.1, a.eval x.2)).toList = some arr := by simpa using e1
    rw [e1']
    rfl) k

/-- An operation that makes one block. -/
theorem OpOK.mk {ob : Ob} {v : MV} (hd : ∀ x, o.dst = some x → x < s.m) (hb : ob.bd s.n) (hv : v.bd (s.n + 1))
    (h : ∀ w0 wr A L F a w, Rl w0 wr A L F s a w → ∃ c e t u, (execOp a.eval o).run P w = .ok (.value u) (w.alloc (.cells c e (0, 0))) ∧
      (∀ L' : Lay, L' s.n = some (w.heap.size, t) → (∀ id, id ≠ s.n → L' id = L id) →
        (∀ x : MC, x.bd s.n → ∀ u, RC (look s.st) L w F x u → RC (look (s.new ob).st) L' (w.alloc (.cells c e (0, 0))) F x u) →
        ObOK (look (s.new ob).st) L' (w.alloc (.cells c e (0, 0))) F s.n ob ∧ RV (look (s.new ob).st) L' (w.alloc (.cells c e (0, 0))) F v u))
    (k : K ((s.new ob).put o.dst v)) : OpOK P o s K := by
  intro w0 wr A a w Q K' hg ⟨L, F, hr⟩ hK
  obtain ⟨c, e, t, u, he, hx⟩ := h _ _ _ _ _ _ _ hr
  obtain ⟨L', hr', hL1, hL2⟩ := hr.alloc c e t ob hb (fun L' h1 h2 h3 => (hx L' h1 h2 h3).1)
  unfold Oper.wp
  rw [he]
  have hi : ∀ x : MC, x.bd s.n → ∀ u, RC (look s.st) L w F x u → RC (look (s.new ob).st) L' (w.alloc (.cells c e (0, 0))) F x u := fun x hx' u hru =>
    RC.new (fresh_look hr) (fun b hb' => Below.heap_alloc _ _ _ (hr.fsz b hb')) hL2 (fun id b t' j h1 h2 h3 => by
      rw [World.cell?_of_block (w := w) (Below.heap_alloc _ _ _ (hr.own id b t' h1 h2).2.1)]; exact h3) hx' hru
  exact hK _ _ _ ⟨L', F, hr'.put hd (hx L' hL1 hL2 hi).2 hv⟩ k

theorem cell_alloc (w : World) (c : Array Value) (e : TypeId) (j : Nat) : (w.alloc (.cells c e (0, 0))).cell? ⟨w.heap.size, j, none⟩ = c[j]? := by
  have h : (w.alloc (.cells c e (0, 0))).heap[w.heap.size]? = some (.cells c e (0, 0)) := by
    show (w.heap.push _)[w.heap.size]? = _
    simp
  unfold World.cell?
  simp only [h]
  simp
theorem free_alloc (w : World) (c : Array Value) (e : TypeId) : Free (w.alloc (.cells c e (0, 0))) w.heap.size := fun j => by
  have h : (w.alloc (.cells c e (0, 0))).heap[w.heap.size]? = some (.cells c e (0, 0)) := by
    show (w.heap.push _)[w.heap.size]? = _
    simp
  unfold World.frozen?
  simp only [h]
  simp

theorem WC.of_cells {st st' : Sto} {L L' : Lay} {w : World} {F : FF} {n : Nat} {cs : List MC} {c : Array Value} {e : TypeId} (h : Cells st L w F cs c) (hb : ∀ x ∈ cs, x.bd n)
    (hi : ∀ x : MC, x.bd n → ∀ u, RC st L w F x u → RC st' L' (w.alloc (.cells c e (0, 0))) F x u) : WC st' L' (w.alloc (.cells c e (0, 0))) F w.heap.size 0 cs := fun j x hj => by
  obtain ⟨u, h1, h2⟩ := h.2 j x hj
  refine ⟨u, ?_, hi x (hb x (List.mem_of_getElem? hj)) u h2⟩
  rw [Nat.zero_add, cell_alloc]; exact h1

theorem r_box {t : TypeId} {x : Operand} {v : MV} {cs : List MC} (ho : o.op = .box t x) (hd : Oper.dok o s.m = true) (hx : evO s x = some v) (hc : mvCells v = some cs)
    (k : K ((s.new (.box cs)).put o.dst (.one (.ptr s.n 0 0)))) : OpOK P o s K := by
  by_cases hb : ∀ y ∈ cs, y.bd s.n
  · refine OpOK.mk (ob := .box cs) (Oper.dok_spec hd) hb (Nat.lt_succ_self _) (fun w0 wr A L F a w h => ?_) k
    obtain ⟨h1, h2⟩ := evO_ok h hx
    obtain ⟨h3, _⟩ := mvCells_ok h1 h2 hc
    refine ⟨(a.eval x).cells, t, 0, .pointer (some ⟨w.heap.size, 0, none⟩), ?_, fun L' hL1 hL2 hi => ⟨⟨_, 0, hL1, free_alloc _ _ _, WC.of_cells h3 hb hi⟩, rfl, fun _ => ⟨_, 0, hL1, rfl⟩⟩⟩
    simp only [execOp, ho, Instr.box, newVar, newRow, Sem.run_bind, run_newObj, Result.andThen_ok, Sem.run_pure]
    rfl
  · intro w0 wr A a w Q K' hg ⟨L, F, hr⟩ hK
    obtain ⟨h1, h2⟩ := evO_ok hr hx
    exact absurd (mvCells_ok h1 h2 hc).2 hb

theorem r_alloc {t : TypeId} {i : TI} (hT : TOk P T) (ho : o.op = .alloc t) (hd : Oper.dok o s.m = true) (ht : T t = some i)
    (k : K ((s.new (.box (i.z.map ZC.mc))).put o.dst (.one (.ptr s.n 0 0)))) : OpOK P o s K := by
  refine OpOK.mk (ob := .box (i.z.map ZC.mc)) (Oper.dok_spec hd) (zmc_bd _ _) (Nat.lt_succ_self _) (fun w0 wr A L F a w h => ?_) k
  obtain ⟨z, hz, hzc⟩ := hT.zero ht
  have h3 : Cells (look s.st) L w F (i.z.map ZC.mc) z.cells := by simpa using zc_ok (st := look s.st) (L := L) (w := w) (F := F) _ _ hzc
  refine ⟨z.cells, t, 0, .pointer (some ⟨w.heap.size, 0, none⟩), ?_, fun L' hL1 hL2 hi => ⟨⟨_, 0, hL1, free_alloc _ _ _, WC.of_cells h3 (zmc_bd _ _) hi⟩, rfl, fun _ => ⟨_, 0, hL1, rfl⟩⟩⟩
  simp only [execOp, ho, Instr.alloc, hz, newVar, newRow, Sem.run_bind, run_newObj, Result.andThen_ok, Sem.run_pure]
  rfl

/-- What a store makes of an object. -/
def obPut : Ob → Nat → Nat → List MC → Option (Prop × Ob)
  | .box cs0, r, f, cs => if r = 0 then some (f + cs.length ≤ cs0.length, .box (putAt cs0 f cs)) else none
  | .arr rows, r, f, cs => some (r < rows.length ∧ f + cs.length ≤ (rows.getD r []).length, .arr (rows.set r (putAt (rows.getD r []) f cs)))

theorem WC.setCells {st : Sto} {L : Lay} {w : World} {F : FF} {b p : Nat} {cs0 cs : List MC} {vs : List Value} {f : Nat} {st' : Sto}
    (hi : ∀ x : MC, ∀ u, RC st L w F x u → RC st' L (w.setCells b (p + f) vs) F x u) (h : WC st L w F b p cs0) (hv : Cells st L w F cs vs.toArray) (hl : f + cs.length ≤ cs0.length) :
    WC st' L (w.setCells b (p + f) vs) F b p (putAt cs0 f cs) := fun j x hj => by
  have hvl : vs.length = cs.length := by simpa using hv.1
  rw [putAt_get _ _ _ hl] at hj
  have hex : ∀ j, j < vs.length → (w.cell? ⟨b, p + f + j, none⟩).isSome = true := fun j hj => by
    obtain ⟨u, hu, _⟩ := h (f + j) _ (List.getElem?_eq_getElem (by omega))
    rw [Nat.add_assoc, hu]; rfl
  by_cases hc : f ≤ j ∧ j < f + cs.length
  · rw [if_pos hc] at hj
    obtain ⟨u, hu, hr⟩ := hv.2 _ x hj
    refine ⟨u, ?_, hi x u hr⟩
    have := World.cell?_setCells_in b vs (p + f) w hex (j - f) (by omega)
    rw [show p + f + (j - f) = p + j by omega] at this
    rw [this, ← hu]
    simp
  · rw [if_neg hc] at hj
    obtain ⟨u, hu, hr⟩ := h j x hj
    refine ⟨u, ?_, hi x u hr⟩
    rw [World.cell?_setCells_out b vs (p + f) w _ (fun _ _ => by simp only; omega)]
    exact hu

theorem r_store {t : TypeId} {x y : Operand} {id r f : Nat} {v : MV} {cs : List MC} {ob ob' : Ob} {i : TI} {p : Prop} (hT : TOk P T) (ho : o.op = .store t x y) (hd : o.dst = none) (ht : T t = some i)
    (hx : evO s x = some (.one (.ptr id r f))) (hy : evO s y = some v) (hc : mvCells v = some cs) (hid : look s.st id = some ob) (hp : obPut ob r f cs = some (p, ob')) (hpp : p) (hz : cs.length = i.size)
    (k : K (s.set id ob')) : OpOK P o s K := by
  intro w0 wr A a w Q K' hg ⟨L, F, hr⟩ hK
  obtain ⟨h1, hb1⟩ := evO_ok hr hx
  obtain ⟨h2, hb2⟩ := evO_ok hr hy
  obtain ⟨hcs, hbc⟩ := mvCells_ok h2 hb2 hc
  obtain ⟨b, st, hL, hv⟩ := h1.2 (by rw [hid]; rfl)
  have hone : ∀ q ∈ (a.eval y).cells.toList, q.oneCell' = true := fun q hq => by
    obtain ⟨j, hj⟩ := List.getElem?_of_mem hq
    have hlt : j < cs.length := by
      have := (List.getElem?_eq_some_iff.1 hj).1
      have h3 := hcs.1
      simp at this
      omega
    obtain ⟨u, hu, hru⟩ := hcs.2 j cs[j] (List.getElem?_eq_getElem hlt)
    have : (a.eval y).cells.toList[j]? = some u := by simpa using hu
    rw [this] at hj
    obtain rfl := Option.some.inj hj
    exact hru.one
  have hob := hr.ob id ob hid
  have hbo := (hr.bst id ob hid).2
  have hcl : (a.eval y).cells.toList.length = cs.length := by simpa using hcs.1
  have hcs' : Cells (look s.st) L w F cs (a.eval y).cells.toList.toArray := by simpa using hcs
  -- the row that is written, and what stands there
  obtain ⟨row, hrow, hfl, hWC, hfree, hobd, hlike, hback⟩ : ∃ row : List MC, (∀ x ∈ row, x.bd s.n) ∧ f + cs.length ≤ row.length ∧ WC (look s.st) L w F b (r * st) row ∧ Free w b ∧ ob'.bd s.n ∧ ob.like ob' ∧
      ((∀ x : MC, ∀ u, RC (look s.st) L w F x u → RC (look (s.set id ob').st) L (w.setCells b (r * st + f) (a.eval y).cells.toList) F x u) →
        ObOK (look (s.set id ob').st) L (w.setCells b (r * st + f) (a.eval y).cells.toList) F id ob') := by
    have hfz : ∀ b p vs, Free w b → Free (w.setCells b p vs) b := fun b p vs hf j => by rw [World.frozen?_setCells]; exact hf j
    cases ob with
    | box cs0 =>
      simp only [obPut] at hp
      split at hp
      · rename_i hr0
        obtain ⟨rfl, rfl⟩ := Prod.mk.inj (Option.some.inj hp)
        obtain ⟨b', st', hL', hf', hw'⟩ := hob
        rw [hL] at hL'
        obtain ⟨rfl, rfl⟩ := Prod.mk.inj (Option.some.inj hL')
        subst hr0
        refine ⟨cs0, hbo, hpp, by simpa using hw', hf', fun x hx => ?_, trivial, fun hi => ⟨b, st, hL, hfz _ _ _ hf', ?_⟩⟩
        · rcases putAt_mem hx with hx | hx
          · exact hbo x hx
          · exact hbc x hx
        · simp only [Nat.zero_mul] at hi ⊢
          exact WC.setCells hi hw' hcs' hpp
      · cases hp
    | arr rows =>
      obtain ⟨rfl, rfl⟩ := Prod.mk.inj (Option.some.inj hp)
      obtain ⟨hp1, hp2⟩ := hpp
      rcases hob with ⟨rfl, _⟩ | ⟨b', st', hL', hf', hs', hw'⟩
      · simp at hp1
      · rw [hL] at hL'
        obtain ⟨rfl, rfl⟩ := Prod.mk.inj (Option.some.inj hL')
        have hrg : rows[r]? = some (rows.getD r []) := by simp [List.getElem?_eq_getElem hp1]
        refine ⟨rows.getD r [], hbo _ (List.mem_of_getElem? hrg), hp2, hw' r _ hrg, hf', ?_, by simp [Ob.like], fun hi => .inr ⟨b, st, hL, hfz _ _ _ hf', ?_, ?_⟩⟩
        · intro q hq x hx
          rcases List.mem_or_eq_of_mem_set hq with hq | rfl
          · exact hbo q hq x hx
          · rcases putAt_mem hx with hx | hx
            · exact hbo _ (List.mem_of_getElem? hrg) x hx
            · exact hbc x hx
        · intro q hq
          rcases List.mem_or_eq_of_mem_set hq with hq | rfl
          · exact hs' q hq
          · rw [putAt_len _ _ _ hp2]; exact hs' _ (List.mem_of_getElem? hrg)
        · intro j q hq
          by_cases hjr : j = r
          · subst hjr
            rw [List.getElem?_set_self hp1] at hq
            obtain rfl := Option.some.inj hq
            exact WC.setCells hi (hw' j _ hrg) hcs' hp2
          · rw [List.getElem?_set_ne (Ne.symm hjr)] at hq
            intro m x hm
            obtain ⟨u, hu, hru⟩ := hw' j q hq m x hm
            refine ⟨u, ?_, hi x u hru⟩
            rw [World.cell?_setCells_out b _ _ w _ (fun _ _ => ?_)]
            · exact hu
            · simp only
              have hm' : m < st := by
                have := (List.getElem?_eq_some_iff.1 hm).1
                rw [hs' q (List.mem_of_getElem? hq)] at this; exact this
              have hst : (rows.getD r []).length = st := hs' _ (List.mem_of_getElem? hrg)
              rw [hcl]
              rcases Nat.lt_or_gt_of_ne hjr with hlt | hgt
              · left
                have : (j + 1) * st ≤ r * st := Nat.mul_le_mul_right _ hlt
                rw [Nat.add_mul] at this; omega
              · right
                have : (r + 1) * st ≤ j * st := Nat.mul_le_mul_right _ hgt
                rw [Nat.add_mul] at this; omega
  have hcells : ∀ j, j < (a.eval y).cells.toList.length → (w.cell? ⟨b, r * st + f + j, none⟩).isSome = true := fun j hj => by
    obtain ⟨u, hu, _⟩ := hWC (f + j) _ (List.getElem?_eq_getElem (by omega))
    rw [Nat.add_assoc, hu]; rfl
  have hst := run_storeCells_cells (P := P) b (r * st + f) (a.eval y).cells.toList 0 w (by simpa using hcells) (fun j _ => hfree _) hone
  unfold Oper.wp
  have hrun : (execOp a.eval o).run P w = .ok .skip (w.setCells b (r * st + f) (a.eval y).cells.toList) := by
    have hsz : (a.eval y).cells.size = i.size := by rw [hcs.1]; exact hz
    simp only [Nat.add_zero] at hst
    simp only [execOp, ho, hv, Instr.storeAt, Instr.sureAddr, storeVar, Sem.run_bind, Sem.run_pure, Result.andThen_ok, hT.size ht, hsz, ne_eq, not_true_eq_false, if_false, hst]
  rw [hrun]
  have := hr.store (p := r * st + f) hid hL hlike hcells hobd hback
  have h3 := hK _ _ _ ⟨L, F, this⟩ k
  simp only [Oper.upon, hd]
  exact h3

end Mg
