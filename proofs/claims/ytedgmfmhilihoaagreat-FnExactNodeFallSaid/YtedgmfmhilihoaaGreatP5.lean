/- Parts of the abstract state logic and of the walks, one behind the other: Mg14, Mg21, Mg24. No condition. -/
import Derived.Test.YtedgmfmhilihoaaGreatP4
import Derived.Laws.BytesString
import Derived.Test.YtedgmfmhilihoaaGreatP3
import Derived.Laws.StructEq
/- The abstract state logic, part 14: an operation's step, reckoned. No condition. -/
namespace Mg
open Go Go.RowKit
set_option linter.unusedVariables false

/-- What the proof knows ahead: an element's row, a call's result. -/
structure ConT : Type 1 where
  D : Type
  p : D → Prop
  r : D → MV
  os : D → List Ob
inductive Hint : Type 1 where
  | row (r : List MC)
  | rowf (g : Int → List MC)
  | res (r : MV)
  | resf (g : List MV → MV)
  | con (md : Bool) (β cs fs : List Nat) (C : List MV → List Ob → ConT)
  | tre (fl : Bool) (g : List MV → MV)
  | told (g : List MV → MV)
  | mark (g : MV → Int → MV × Int) (keep : List Nat) (upd : List (Nat × List (Nat × Nat))) (ids : List Nat) (ob : List (Nat × Nat × Nat))
def rowH : Option Hint → Int → Option Hint
  | some (.rowf g), n => some (.row (g n))
  | h, _ => h

def S.app2 (s : S) (rows : List (List MC)) (st : List (Nat × Ob)) (d : Option Nat) (n : Nat) : S := (s.app rows st).put d (.one (.ref s.n 0 n))

def stepLen (T : Tab) (s : S) : List Operand → List TypeId → Option (Prop × MV)
  | [x], [t] => match T t, evO s x with
    | some i, some v => match i.k with
      | .slice _ => match v with
        | .one (.ref id f l) => match look s.st id with
          | some (.arr _) => some (True, .one (.sc (.int .i64 l)))
          | _ => none
        | v => (lenV v).map fun n => (True, .one (.sc (.int .i64 n)))
      | .str => match v with
        | .one (.sc (.string b)) => some (True, .one (.sc (.int .i64 b.size)))
        | _ => none
      | _ => none
    | _, _ => none
  | _, _ => none

/-- Rows of one byte each. -/
def byteRows : List (List MC) → Option (List Int)
  | [] => some []
  | [.sc (.int .u8 n)] :: rs => (byteRows rs).map (n :: ·)
  | _ => none
def strOf (ns : List Int) : ByteArray := ns.foldl (fun r n => r.push (UInt8.ofNat n.toNat)) ByteArray.empty
theorem byteRows_get : ∀ {rows : List (List MC)} {ns : List Int}, byteRows rows = some ns → rows = ns.map fun n => [.sc (.int .u8 n)]
  | [], ns, h => by obtain rfl := Option.some.inj h; rfl
  | [.sc (.int .u8 n)] :: rs, ns, h => by
    obtain ⟨ms, hm, rfl⟩ := Option.map_eq_some_iff.1 h
    rw [byteRows_get hm]; rfl
theorem RF.bytes {w : World} {F : Nat → Prop} {ns : List Int} {v : Value} (h : RF w F (.fz (ns.map fun n => [.sc (.int .u8 n)])) v) {P : Program} : (Conv.bytesToString v).run P w = .ok (.string (strOf ns)) w := by
  obtain ⟨a, cap, rfl, hcap, hb⟩ := h.fz_inv
  cases a with
  | none =>
    cases ns with
    | nil => simp [Conv.bytesToString, strOf]
    | cons n ns => obtain ⟨b, off, s, h1, _⟩ := hb (by simp); cases h1
  | some a =>
    have hl := run_loadCells_list (P := P) w a (ns.map (Value.int .u8)) fun j v hj => by
      rw [List.getElem?_map] at hj
      obtain ⟨n, hn, rfl⟩ := Option.map_eq_some_iff.1 hj
      have hrow : (ns.map fun n => [MC.sc (.int .u8 n)])[j]? = some [MC.sc (.int .u8 n)] := by rw [List.getElem?_map, hn]; rfl
      obtain ⟨b, off, s, h1, _, hs, hc⟩ := hb (by intro e; rw [e] at hrow; simp at hrow)
      obtain rfl := Option.some.inj h1
      have : s = 1 := by rw [← hs _ (List.mem_of_getElem? hrow)]; rfl
      subst this
      obtain ⟨u, hu, hr⟩ := hc j 0 _ _ hrow rfl
      cases hr with
      | sc _ _ => simpa [Addr.add_mid] using hu
    rw [List.length_map] at hl ⊢
    exact run_bytesToString w a _ cap ns hl

theorem r_bts {s : S} {o : Oper} {K : S → Prop} {P : Program} {T : Tab} {t t' e : TypeId} {x : Operand} {i i' ie : TI} {c : MC} {rows : List (List MC)} {ns : List Int} (hT : TOk P T) (ho : o.op = .convert t t' x) (hd : Oper.dok o s.m = true)
    (ht : T t = some i) (hk : i.k = .slice e) (he : T e = some ie) (hke : ie.k = .int .u8) (ht' : T t' = some i') (hk' : i'.k = .str) (hx : evO s x = some (.one c)) (hc : fzRows c = some rows) (hb : byteRows rows = some ns)
    (k : K (s.put o.dst (.one (.sc (.string (strOf ns)))))) : OpOK P o s K :=
  OpOK.val (Oper.dok_spec hd) (fun w0 wr A L F a w h => by
    obtain ⟨h1, _⟩ := evO_ok h hx
    obtain ⟨G, hG, _, _⟩ := fz_any h1 hc
    obtain rfl := byteRows_get hb
    have hs := hG.bytes (P := P)
    obtain ⟨b, cap, hv, _⟩ := hG.fz_inv
    refine ⟨.string (strOf ns), ?_, ⟨rfl, rfl⟩, trivial⟩
    rw [hv] at hs
    simp only [execOp, ho]
    rw [hv, Sem.run_bind, run_convert_bytes_string w t t' e b _ cap (hT.und_slice ht hk) (hT.und_int he hke) (hT.und_str ht' hk'), hs]
    simp) k

/-- A field of a struct that stands in a slot. -/
theorem r_field {s : S} {o : Oper} {K : S → Prop} {P : Program} {T : Tab} {t : TypeId} {x : Operand} {f off ft : Nat} {l : List (Nat × Nat)} {i fi : TI} {cs : List MC} {c : MC} (hT : TOk P T) (ho : o.op = .field t x f) (hd : Oper.dok o s.m = true)
    (ht : T t = some i) (hk : i.k = .struct l) (hf : l[f]? = some (off, ft)) (hft : T ft = some fi) (hfk : fi.k.agg = false) (hx : evO s x = some (.agg cs)) (hc : cs[off]? = some c) (k : K (s.put o.dst (.one c))) : OpOK P o s K :=
  OpOK.val (Oper.dok_spec hd) (fun w0 wr A L F a w h => by
    obtain ⟨⟨arr, hv, h1, h2⟩, hb⟩ := evO_ok h hx
    obtain ⟨u, hu, hr⟩ := h2 off c hc
    obtain ⟨fs, hu0, hm, hz⟩ := hT.und_struct ht hk
    have hfs : (fs.toList.map (fun f => (f.offset, f.type)))[f]? = some (off, ft) := by rw [hm]; exact hf
    rw [List.getElem?_map] at hfs
    obtain ⟨g, hg, hge⟩ := Option.map_eq_some_iff.1 hfs
    obtain ⟨rfl, rfl⟩ := Prod.mk.inj hge
    have hg' : fs[f]? = some g := by rw [← Array.getElem?_toList]; exact hg
    refine ⟨u, ?_, hr, hb c (List.mem_of_getElem? hc)⟩
    simp [execOp, ho, hv, Instr.field, run_underlying hu0, hg', asAgg, part, hT.isAgg hft hfk, hu]) k
theorem r_fieldS {s : S} {o : Oper} {K : S → Prop} {P : Program} {T : Tab} {t : TypeId} {x : Operand} {f off ft : Nat} {l l' : List (Nat × Nat)} {i fi : TI} {cs : List MC} (hT : TOk P T) (ho : o.op = .field t x f) (hd : Oper.dok o s.m = true)
    (ht : T t = some i) (hk : i.k = .struct l) (hf : l[f]? = some (off, ft)) (hft : T ft = some fi) (hfk : fi.k = .struct l') (hx : evO s x = some (.agg cs)) (hc : off + fi.size ≤ cs.length) (k : K (s.put o.dst (.agg ((cs.drop off).take fi.size)))) : OpOK P o s K :=
  OpOK.val (Oper.dok_spec hd) (fun w0 wr A L F a w h => by
    obtain ⟨⟨arr, hv, h1, h2⟩, hb⟩ := evO_ok h hx
    obtain ⟨fs, hu0, hm, hz⟩ := hT.und_struct ht hk
    obtain ⟨gs, hu1, _, _⟩ := hT.und_struct hft hfk
    have hfs : (fs.toList.map (fun f => (f.offset, f.type)))[f]? = some (off, ft) := by rw [hm]; exact hf
    rw [List.getElem?_map] at hfs
    obtain ⟨g, hg, hge⟩ := Option.map_eq_some_iff.1 hfs
    obtain ⟨rfl, rfl⟩ := Prod.mk.inj hge
    have hg' : fs[f]? = some g := by rw [← Array.getElem?_toList]; exact hg
    have ha : (isAgg g.type).run P w = .ok true w := by
      unfold Go.isAgg
      simp [run_underlying hu1]
    have hs := hT.size hft w
    refine ⟨.agg (arr.extract g.offset (g.offset + fi.size)), ?_, ⟨_, rfl, ?_, fun j c hj => ?_⟩, fun c hc' => hb c (List.mem_of_mem_drop (List.mem_of_mem_take hc'))⟩
    · simp [execOp, ho, hv, Instr.field, run_underlying hu0, hg', asAgg, part, ha, hs]
    · simp; omega
    · rw [List.getElem?_take] at hj
      split at hj
      · rw [List.getElem?_drop] at hj
        obtain ⟨u, hu, hr⟩ := h2 _ c hj
        refine ⟨u, ?_, hr⟩
        rw [Array.getElem?_extract]
        rw [if_pos (by omega)]
        exact hu
      · cases hj) k

def stepV (T : Tab) (s : S) : Op → Option (Prop × MV)
  | .move x => (evO s x).map fun v => (True, v)
  | .assign x => (evO s x).map fun v => (True, v)
  | .pick c x y => match evO s c with
    | some (.one (.sc (.bool true))) => (evO s x).map fun v => (True, v)
    | some (.one (.sc (.bool false))) => (evO s y).map fun v => (True, v)
    | _ => none
  | .binOp op t x y _ => match evO s x, evO s y with
    | some (.one (.sc (.bool a))), some (.one (.sc (.bool b))) => match T t with
      | some i => match i.k, op with
        | .bool, .eql => some (True, .one (.sc (.bool (a == b))))
        | .bool, .neq => some (True, .one (.sc (.bool (!(a == b)))))
        | _, _ => none
      | none => none
    | some (.one (.sc u)), some (.one (.sc v)) => (binV op u v).map fun q => (q.1, .one (.sc q.2))
    | _, _ => none
  | .unOp .not _ x => match evO s x with
    | some (.one (.sc (.bool b))) => some (True, .one (.sc (.bool (!b))))
    | _ => none
  | .unOp .neg _ x => match evO s x with
    | some (.one (.sc (.int k n))) => some (True, .one (.sc (.int k (k.wrap (0 - n)))))
    | _ => none
  | .convert t t' x => match T t, T t', evO s x with
    | some i, some i', some (.one (.sc (.int k n))) => match i.k, i'.k with
      | .int k1, .int k2 => if k1 = k then some (True, .one (.sc (.int k2 (k2.wrap n)))) else none
      | _, _ => none
    | some i, some i', some (.one c) => match i.k, i'.k, fzRows c with
      | .slice e, .str, some rows => match T e with
        | some ie => match ie.k, byteRows rows with
          | .int .u8, some ns => some (True, .one (.sc (.string (strOf ns))))
          | _, _ => none
        | none => none
      | _, _, _ => none
    | _, _, _ => none
  | .nilCheck x => match evO s x with
    | some (.one c) => match okP (look s.st) c with
      | true => some (True, .one c)
      | false => none
    | _ => none
  | .extract x i => match evO s x with
    | some (.tup vs) => match vs[i]? with
      | some (.one c) => some (True, .one c)
      | some (.agg cs) => some (True, .agg cs)
      | _ => none
    | _ => none
  | .fieldAddr t x f => match T t, evO s x with
    | some i, some (.one c) => match i.k with
      | .struct l => match l[f]?, okP (look s.st) c with
        | some (off, _), true => some (True, .one (ptrAdd c off))
        | _, _ => none
      | _ => none
    | _, _ => none
  | .field t x f => match T t, evO s x with
    | some i, some (.agg cs) => match i.k with
      | .struct l => match l[f]? with
        | some (off, ft) => match T ft with
          | some fi => match fi.k with
            | .struct _ => some (off + fi.size ≤ cs.length, .agg ((cs.drop off).take fi.size))
            | .arr _ _ => none
            | .other => none
            | _ => match cs[off]? with
              | some c => some (True, .one c)
              | none => none
          | none => none
        | none => none
      | _ => none
    | _, _ => none
  | .load t x => match T t, evO s x with
    | some i, some (.one c) => match ptrCells s c with
      | some cs => match i.k with
        | .struct _ => some (i.size ≤ cs.length, .agg (cs.take i.size))
        | .arr _ _ => some (i.size ≤ cs.length, .agg (cs.take i.size))
        | .other => none
        | _ => some (0 < cs.length, .one (cs.getD 0 .dead))
      | none => none
    | _, _ => none
  | .call c => match c.callee with
    | .builtin .len => stepLen T s c.args.toList c.argTypes.toList
    | _ => none
  | _ => none

variable {P : Program} {T : Tab}

theorem stepV_ok {s : S} {o : Oper} {p : Prop} {v : MV} {K : S → Prop} (hT : TOk P T) (hd : Oper.dok o s.m = true) (h : stepV T s o.op = some (p, v)) (hp : p) (k : K (s.put o.dst v)) : OpOK P o s K := by
  generalize ho : o.op = op at h
  unfold stepV at h
  split at h
  · obtain ⟨v', hv, he⟩ := Option.map_eq_some_iff.1 h
    obtain ⟨rfl, rfl⟩ := Prod.mk.inj he
    exact r_move (.inl ho) hd hv k
  · obtain ⟨v', hv, he⟩ := Option.map_eq_some_iff.1 h
    obtain ⟨rfl, rfl⟩ := Prod.mk.inj he
    exact r_move (.inr ho) hd hv k
  · split at h
    · rename_i hc
      obtain ⟨v', hv, he⟩ := Option.map_eq_some_iff.1 h
      obtain ⟨rfl, rfl⟩ := Prod.mk.inj he
      exact r_pick ho hd hc (by simpa using hv) k
    · rename_i hc
      obtain ⟨v', hv, he⟩ := Option.map_eq_some_iff.1 h
      obtain ⟨rfl, rfl⟩ := Prod.mk.inj he
      exact r_pick ho hd hc (by simpa using hv) k
    · cases h
  · split at h
    · rename_i a b hx hy
      split at h
      · rename_i i ht
        split at h
        · rename_i hk
          obtain ⟨rfl, rfl⟩ := Prod.mk.inj (Option.some.inj h)
          exact r_binb hT ho hd ht hk hx hy (.inl ⟨rfl, rfl⟩) k
        · rename_i hk
          obtain ⟨rfl, rfl⟩ := Prod.mk.inj (Option.some.inj h)
          exact r_binb hT ho hd ht hk hx hy (.inr ⟨rfl, rfl⟩) k
        · cases h
      · cases h
    · rename_i u w _ hx hy
      obtain ⟨q, hq, he⟩ := Option.map_eq_some_iff.1 h
      obtain ⟨rfl, rfl⟩ := Prod.mk.inj he
      exact r_bin ho hd hx hy hq hp k
    · cases h
  · split at h
    · rename_i hx
      obtain ⟨rfl, rfl⟩ := Prod.mk.inj (Option.some.inj h)
      exact r_not ho hd hx k
    · cases h
  · split at h
    · rename_i hx
      obtain ⟨rfl, rfl⟩ := Prod.mk.inj (Option.some.inj h)
      exact r_neg ho hd hx k
    · cases h
  · split at h
    · rename_i i i' kk n ht ht' hx
      split at h
      · rename_i k1 k2 hk hk'
        split at h
        · rename_i hkk
          subst hkk
          obtain ⟨rfl, rfl⟩ := Prod.mk.inj (Option.some.inj h)
          exact r_conv hT ho hd ht hk ht' hk' hx k
        · cases h
      · cases h
    · rename_i i i' c _ ht ht' hx
      split at h
      · rename_i e rows hk hk' hc
        split at h
        · rename_i ie he
          split at h
          · rename_i ns hke hb
            obtain ⟨rfl, rfl⟩ := Prod.mk.inj (Option.some.inj h)
            exact r_bts hT ho hd ht hk he hke ht' hk' hx hc hb k
          · cases h
        · cases h
      · cases h
    · cases h
  · split at h
    · rename_i c hx
      split at h
      · rename_i hc
        obtain ⟨rfl, rfl⟩ := Prod.mk.inj (Option.some.inj h)
        exact r_nilCheck ho hd hx hc k
      · cases h
    · cases h
  · split at h
    · rename_i vs hx
      split at h
      · rename_i c hi
        obtain ⟨rfl, rfl⟩ := Prod.mk.inj (Option.some.inj h)
        exact r_extract ho hd hx hi (fun l hl => by cases hl) k
      · rename_i cs hi
        obtain ⟨rfl, rfl⟩ := Prod.mk.inj (Option.some.inj h)
        exact r_extract ho hd hx hi (fun l hl => by cases hl) k
      · cases h
    · cases h
  · split at h
    · rename_i i c ht hx
      split at h
      · rename_i l hk
        split at h
        · rename_i off ft hf hc
          obtain ⟨rfl, rfl⟩ := Prod.mk.inj (Option.some.inj h)
          exact r_fieldAddr hT ho hd ht hk hf hx hc k
        · cases h
      · cases h
    · cases h
  · split at h
    · rename_i i cs ht hx
      split at h
      · rename_i l hk
        split at h
        · rename_i off ft hf
          split at h
          · rename_i fi hft
            split at h
            · rename_i hfk
              obtain ⟨rfl, rfl⟩ := Prod.mk.inj (Option.some.inj h)
              exact r_fieldS hT ho hd ht hk hf hft hfk hx hp k
            · cases h
            · cases h
            · rename_i h1 h2 h3
              split at h
              · rename_i c hc
                obtain ⟨rfl, rfl⟩ := Prod.mk.inj (Option.some.inj h)
                refine r_field hT ho hd ht hk hf hft ?_ hx hc k
                cases hfk : fi.k <;> first | rfl | (exact absurd hfk (h2 _ _)) | (exact absurd hfk (h1 _)) | (exact absurd hfk h3)
              · cases h
          · cases h
        · cases h
      · cases h
    · cases h
  · split at h
    · rename_i i c ht hx
      split at h
      · rename_i cs hcs
        split at h
        · rename_i hk
          obtain ⟨rfl, rfl⟩ := Prod.mk.inj (Option.some.inj h)
          exact r_load hT ho hd ht (by rw [hk]) hx hcs hp k
        · rename_i hk
          obtain ⟨rfl, rfl⟩ := Prod.mk.inj (Option.some.inj h)
          exact r_load hT ho hd ht (by rw [hk]) hx hcs hp k
        · cases h
        · rename_i h1 h2 h3
          obtain ⟨rfl, rfl⟩ := Prod.mk.inj (Option.some.inj h)
          refine r_load1 hT ho hd ht ?_ hx hcs hp k
          cases hk : i.k <;> first | rfl | (exact absurd hk (h2 _ _)) | (exact absurd hk (h1 _)) | (exact absurd hk h3)
      · cases h
    · cases h
  · rename_i c
    obtain ⟨cal, args, ats⟩ := c
    simp only at h
    split at h
    · unfold stepLen at h
      split at h
      · rename_i x t hargs hats
        obtain rfl : args = #[x] := by cases args; simpa using hargs
        obtain rfl : ats = #[t] := by cases ats; simpa using hats
        split at h
        · rename_i i v' ht hx
          split at h
          · rename_i e hk
            split at h
            · rename_i id f l
              split at h
              · rename_i rows hlk
                obtain ⟨rfl, rfl⟩ := Prod.mk.inj (Option.some.inj h)
                exact r_len hT ho hd ht hk hx rfl (fun id' f' l' he => by cases he; exact ⟨_, hlk⟩) k
              · cases h
            · rename_i hne
              obtain ⟨n, hn, he⟩ := Option.map_eq_some_iff.1 h
              obtain ⟨rfl, rfl⟩ := Prod.mk.inj he
              exact r_len hT ho hd ht hk hx hn (fun id' f' l' he => absurd he (hne id' f' l')) k
          · rename_i hk
            split at h
            · obtain ⟨rfl, rfl⟩ := Prod.mk.inj (Option.some.inj h)
              exact r_lenstr hT ho hd ht hk hx k
            · cases h
          · cases h
        · cases h
      · cases h
    · cases h
  · cases h

end Mg

/- The abstract state logic, part 21: == of structs. No condition. -/
namespace Mg
open Go Go.RowKit
set_option linter.unusedVariables false

variable {P : Program} {T : Tab}

/-- A check that the kernel reckons. -/
structure Chk (b : Bool) : Prop where
  h : b = true

def eqOk (P : Program) : Nat → Nat → Bool
  | 0, _ => false
  | n + 1, t => match P.underlying t with
    | some .bool => true
    | some (.int _) => true
    | some (.struct fs) => !P.stoodInHeld t && fs.toList.all fun f => (f.name != "_") && eqOk P n f.type
    | _ => false

def eqFs (T : Tab) (E : Nat → List MC → List MC → Option Bool) : List (Nat × Nat) → List MC → List MC → Option Bool
  | [], _, _ => some true
  | (off, t) :: l, xs, ys => match T t with
    | some i => match E t ((xs.drop off).take i.size) ((ys.drop off).take i.size), eqFs T E l xs ys with
      | some a, some b => some (a && b)
      | _, _ => none
    | none => none
def eqT (T : Tab) : Nat → Nat → List MC → List MC → Option Bool
  | 0, _, _, _ => none
  | n + 1, t, xs, ys => match T t with
    | some i => match i.k with
      | .bool => match xs, ys with
        | [.sc (.bool a)], [.sc (.bool b)] => some (a == b)
        | _, _ => none
      | .int _ => match xs, ys with
        | [.sc (.int k a)], [.sc (.int k' b)] => if k = k' then some (a == b) else none
        | _, _ => none
      | .struct l => if xs.length = i.size ∧ ys.length = i.size then eqFs T (eqT T n) l xs ys else none
      | _ => none
    | none => none

def AR (A : Array Value) (cs : List MC) : Prop := A.size = cs.length ∧ ∀ (j : Nat) (v : Value), cs[j]? = some (.sc v) → A[j]? = some v
def VR (T : Tab) (t : Nat) (cs : List MC) (v : Value) : Prop := match (T t).map TI.k with
  | some (TK.struct _) => ∃ A, v = .agg A ∧ AR A cs
  | _ => ∃ u, cs = [.sc u] ∧ v = u

theorem part_ok (hT : TOk P T) {t : Nat} {i : TI} (ht : T t = some i) {A : Array Value} {cs : List MC} (h : AR A cs) {off : Nat} {w : World}
    (hk : (∃ l, i.k = .struct l ∧ ((cs.drop off).take i.size).length = i.size) ∨ (i.k.agg = false ∧ ∃ u, (cs.drop off).take i.size = [.sc u])) :
    ∃ v, (part t A off).run P w = .ok v w ∧ VR T t ((cs.drop off).take i.size) v := by
  obtain ⟨h1, h2⟩ := h
  rcases hk with ⟨l, hk, hlen⟩ | ⟨hk, u, hu⟩
  · obtain ⟨fs, hus, _⟩ := hT.und_struct ht hk
    refine ⟨.agg (A.extract off (off + i.size)), ?_, ?_⟩
    · have hag : (isAgg t).run P w = .ok true w := by
        unfold Go.isAgg
        simp only [Sem.run_bind, run_underlying hus w, Result.andThen_ok]
        rfl
      unfold part
      simp only [Sem.run_bind, hag, Result.andThen_ok, if_true, hT.size ht w, Sem.run_pure]
    · simp only [VR, ht, Option.map_some, hk]
      refine ⟨_, rfl, ?_, fun j v hj => ?_⟩
      · simp only [List.length_take, List.length_drop] at hlen ⊢
        simp only [Array.size_extract]
        omega
      · rw [List.getElem?_take] at hj
        split at hj
        · rename_i hlt
          rw [List.getElem?_drop] at hj
          rw [Array.getElem?_extract]
          have := h2 _ v hj
          have hlt2 : off + j < A.size := (Array.getElem?_eq_some_iff.1 this).1
          rw [if_pos (by omega)]
          exact this
        · cases hj
  · have hone : i.k ≠ .other := fun e => by rw [e] at hk; cases hk
    have h0 : cs[off]? = some (.sc u) := by
      have : ((cs.drop off).take i.size)[0]? = some (.sc u) := by rw [hu]; rfl
      rw [List.getElem?_take] at this
      split at this
      · rwa [List.getElem?_drop, Nat.add_zero] at this
      · cases this
    refine ⟨u, ?_, ?_⟩
    · unfold part
      simp only [Sem.run_bind, hT.isAgg ht hk w, Result.andThen_ok, Bool.false_eq_true, if_false, h2 _ _ h0, Sem.run_pure]
    · unfold VR
      cases hik : i.k <;> simp [ht, hik, hu] <;>
      (rw [hik] at hk; cases hk)

theorem eqT_agg {n t : Nat} {xs ys : List MC} {b : Bool} {i : TI} (ht : T t = some i) (h : eqT T n t xs ys = some b) :
    (∃ l, i.k = .struct l ∧ xs.length = i.size ∧ ys.length = i.size) ∨ (i.k.agg = false ∧ (∃ u, xs = [.sc u]) ∧ ∃ u, ys = [.sc u]) := by
  cases n with
  | zero => cases h
  | succ n =>
    simp only [eqT, ht] at h
    cases hk : i.k <;> rw [hk] at h <;> simp only at h
    case bool =>
      split at h
      · exact .inr ⟨rfl, ⟨_, rfl⟩, _, rfl⟩
      · cases h
    case int =>
      split at h
      · exact .inr ⟨rfl, ⟨_, rfl⟩, _, rfl⟩
      · cases h
    case struct l =>
      split at h
      · rename_i hl; exact .inl ⟨l, rfl, hl.1, hl.2⟩
      · cases h
    all_goals cases h

theorem eqFs_ok (hT : TOk P T) {n d : Nat} {w : World} (ih : ∀ t xs ys b x y, eqT T n t xs ys = some b → eqOk P n t = true → VR T t xs x → VR T t ys y → (Op.equalIn d t x y).run P w = .ok b w)
    {A B : Array Value} {xs ys : List MC} (hA : AR A xs) (hB : AR B ys) : ∀ (fs : List Field) (b : Bool), (fs.all fun f => (f.name != "_") && eqOk P n f.type) = true → eqFs T (eqT T n) (fs.map fun f => (f.offset, f.type)) xs ys = some b →
      (Op.eqFields d A B fs).run P w = .ok b w
  | [], b, _, h => by
    obtain rfl : true = b := by simpa [eqFs] using h
    simp [Op.eqFields]
  | f :: fs, b, hf, h => by
    simp only [List.all_cons, Bool.and_eq_true, bne_iff_ne, ne_eq] at hf
    simp only [List.map_cons, eqFs] at h
    cases ht : T f.type with
    | none => rw [ht] at h; cases h
    | some i =>
      rw [ht] at h
      simp only at h
      split at h
      · rename_i p q hp hq
        obtain rfl : (p && q) = b := by simpa using h
        obtain ⟨x, hx, hvx⟩ := part_ok (w := w) hT ht hA (off := f.offset) (by
          rcases eqT_agg ht hp with ⟨l, h1, h2, h3⟩ | ⟨h1, h2, h3⟩
          · exact .inl ⟨l, h1, h2⟩
          · exact .inr ⟨h1, h2⟩)
        obtain ⟨y, hy, hvy⟩ := part_ok (w := w) hT ht hB (off := f.offset) (by
          rcases eqT_agg ht hp with ⟨l, h1, h2, h3⟩ | ⟨h1, h2, h3⟩
          · exact .inl ⟨l, h1, h3⟩
          · exact .inr ⟨h1, h3⟩)
        have he := ih _ _ _ _ _ _ hp hf.1.2 hvx hvy
        rw [Op.eqFields]
        rw [if_pos hf.1.1]
        simp only [Sem.run_bind, hx, hy, he, Result.andThen_ok]
        cases p
        · simp
        · simp only [Bool.not_true, Bool.false_eq_true, if_false, Bool.true_and]
          exact eqFs_ok hT ih hA hB fs q (by simpa using hf.2) hq
      · cases h

theorem eqT_ok (hT : TOk P T) {w : World} : ∀ (n d t : Nat) (xs ys : List MC) (b : Bool) (x y : Value), eqT T n t xs ys = some b → eqOk P n t = true → VR T t xs x → VR T t ys y → (Op.equalIn (d + n) t x y).run P w = .ok b w
  | 0, d, t, xs, ys, b, x, y, h, _, _, _ => by cases h
  | n + 1, d, t, xs, ys, b, x, y, h, ho, hx, hy => by
    simp only [eqT] at h
    cases ht : T t with
    | none => rw [ht] at h; cases h
    | some i =>
      rw [ht] at h
      simp only at h
      simp only [VR, ht, Option.map_some] at hx hy
      cases hk : i.k <;> rw [hk] at h hx hy <;> simp only at h hx hy
      case bool =>
        obtain ⟨u, rfl, rfl⟩ := hx
        obtain ⟨v, rfl, rfl⟩ := hy
        split at h
        · rename_i e1 e2
          simp only [List.cons.injEq, MC.sc.injEq, and_true] at e1 e2
          subst e1 e2
          obtain rfl := Option.some.inj h
          exact run_equalIn_bool' w (d + n) t _ _ (hT.und_bool ht hk)
        · cases h
      case int k =>
        obtain ⟨u, rfl, rfl⟩ := hx
        obtain ⟨v, rfl, rfl⟩ := hy
        split at h
        · rename_i e1 e2
          simp only [List.cons.injEq, MC.sc.injEq, and_true] at e1 e2
          subst e1 e2
          split at h
          · rename_i ek
            subst ek
            obtain rfl := Option.some.inj h
            exact run_equalIn_int w (d + n) t _ _ _ _ (hT.und_int ht hk)
          · cases h
        · cases h
      case struct l =>
        split at h
        · obtain ⟨A, rfl, hA⟩ := hx
          obtain ⟨B, rfl, hB⟩ := hy
          obtain ⟨fs, hus, hfs, _⟩ := hT.und_struct ht hk
          simp only [eqOk, hus, Bool.and_eq_true, Bool.not_eq_true'] at ho
          have hf : P.fieldsOf t = fs := by simp [Program.fieldsOf, hus]
          have := run_equalIn_struct (P := P) w (d + n) t A B (by rw [hf]; exact hus) ho.1
          rw [show d + (n + 1) = d + n + 1 from rfl, this, hf]
          rw [← hfs] at h
          exact eqFs_ok hT (fun t xs ys b x y h1 h2 h3 h4 => eqT_ok hT n d t xs ys b x y h1 h2 h3 h4) hA hB fs.toList b ho.2 h
        · cases h
      all_goals cases h

variable {o : Oper} {s : S} {K : S → Prop}

theorem r_eqs {op : BinOp} {t yt : TypeId} {x y : Operand} {xs ys : List MC} {b r : Bool} {i : TI} {l : List (Nat × Nat)} (hT : TOk P T) (ho : o.op = .binOp op t x y yt) (hd : Oper.dok o s.m = true)
    (ht : T t = some i) (hk : i.k = .struct l) (hx : evO s x = some (.agg xs)) (hy : evO s y = some (.agg ys)) (hb : eqT T 8 t xs ys = some b)
    (hc : (eqOk P 8 t && !P.eqGuardType P.depth t) = true) (hr : (op = .eql ∧ r = b) ∨ (op = .neq ∧ r = !b))
    (k : K (s.put o.dst (.one (.sc (.bool r))))) : OpOK P o s K :=
  OpOK.val (Oper.dok_spec hd) (fun w0 wr A L F a w h => by
    obtain ⟨h1, _⟩ := evO_ok h hx
    obtain ⟨h2, _⟩ := evO_ok h hy
    obtain ⟨X, hX, hxs, hxc⟩ := h1
    obtain ⟨Y, hY, hys, hyc⟩ := h2
    simp only [Bool.and_eq_true, Bool.not_eq_true'] at hc
    have hv : ∀ {cs : List MC} {A : Array Value}, A.size = cs.length → (∀ (j : Nat) (c : MC), cs[j]? = some c → ∃ u : Value, A[j]? = some u ∧ RC (look s.st) L w F c u) → VR T t cs (.agg A) := fun h1 h2 => by
      simp only [VR, ht, Option.map_some, hk]
      exact ⟨_, rfl, h1, fun j v hj => by
        obtain ⟨u, hu, hr⟩ := h2 j _ hj
        obtain ⟨rfl, _⟩ := hr
        exact hu⟩
    have he := eqT_ok (w := w) hT 8 9992 t xs ys b _ _ hb hc.1 (hv hxs hxc) (hv hys hyc)
    refine ⟨.bool r, ?_, ⟨rfl, rfl⟩, trivial⟩
    have hg := fun op => run_eqGuard_agg (P := P) w op t x y X Y hc.2
    rcases hr with ⟨rfl, rfl⟩ | ⟨rfl, rfl⟩
    · simp only [execOp, ho, hX, hY]
      rw [Sem.run_bind, Sem.run_bind, hg]
      simp only [Result.andThen_ok, run_eql_struct, he, Sem.run_pure]
    · simp only [execOp, ho, hX, hY]
      rw [Sem.run_bind, Sem.run_bind, hg]
      simp only [Result.andThen_ok, run_neq_struct, he, Sem.run_pure]) k

end Mg

/- The abstract state logic, part 24: contracts that are handed objects (the callee writes into them) and results of many kinds. No condition. -/
namespace Mg
open Go Go.RowKit
set_option linter.unusedVariables false

variable {P : Program} {T : Tab}

def nth (os : List Ob) : Sto := fun i => os[i]?

/-- Objects in a world, under the names 0, 1, .. -/
structure ObsOK (w : World) (F : FF) (L : Lay) (os : List Ob) : Prop where
  ob : ∀ i o, os[i]? = some o → ObOK (nth os) L w F i o
  inj : ∀ i j b t u, i < os.length → j < os.length → L i = some (b, t) → L j = some (b, u) → i = j
  nf : ∀ i b t, i < os.length → L i = some (b, t) → ¬ F.all b ∧ b < w.heap.size
  bd : ∀ o ∈ os, o.bd os.length

structure ConPost (w : World) (N A : Nat → Prop) (L : Lay) (m k : Nat) (r : MV) (os' : List Ob) (v : Value) (w' : World) (L' : Lay) (F : Nat → Prop) : Prop where
  os : w'.os = w.os
  tape : w'.tape = w.tape
  output : w'.output = w.output
  size : w.heap.size ≤ w'.heap.size
  keep : ∀ b, b < w.heap.size → (∀ i t, i < m → L i ≠ some (b, t)) → w'.heap[b]? = w.heap[b]?
  kc : ∀ b j, b < w.heap.size → (w.cell? ⟨b, j, none⟩).isSome = true → (w'.cell? ⟨b, j, none⟩).isSome = true
  fr : ∀ b, F b → ¬ N b → (w.heap.size ≤ b ∧ b < w'.heap.size) ∨ ∃ j u, k ≤ j ∧ j < m ∧ L j = some (b, u)
  len : k ≤ os'.length
  lay : ∀ i, i < k → L' i = L i
  new : ∀ i b t, k ≤ i → i < os'.length → L' i = some (b, t) → w.heap.size ≤ b ∨ ∃ j u, k ≤ j ∧ j < m ∧ L j = some (b, u)
  obs : ObsOK w' ⟨F, A⟩ L' os'
  rv : RV (nth os') L' w' ⟨F, A⟩ r v
  bd : r.bd os'.length

/-- A CONTRACT with objects: called with args (.ptr and .ref speak of the objects os), it returns for some d what reads as r d; the first k objects, and new ones behind them, then read as os' d; the other objects are used up. -/
def Con (P : Program) (f : Nat) (args : List MV) (os : List Ob) (k : Nat) {D : Type} (p : D → Prop) (r : D → MV) (os' : D → List Ob) : Prop := Fun P f ∧
  ∀ (w : World) (N A : Nat → Prop) (L : Lay) (vals : Array Value), vals.size = args.length → (∀ b, A b → b < w.heap.size) → (∀ b, N b → A b) → ObsOK w ⟨N, A⟩ L os →
    (∀ (j : Nat) (x : MV), args[j]? = some x → ∃ v : Value, vals[j]? = some v ∧ RV (nth os) L w ⟨N, A⟩ x v ∧ x.bd os.length) → GT P w (fun b => ∃ i t, i < os.length ∧ L i = some (b, t)) →
    Calls P f vals w fun e w' => ∃ (d : D) (v : Value) (L' : Lay) (F : Nat → Prop), e = .returned v ∧ p d ∧ ConPost w N A L os.length k (r d) (os' d) v w' L' F

/- ------------------------------------------------ what comes back -/
def gam (n : Nat) (β : List Nat) (i : Nat) : Nat := match β[i]? with
  | some id => id
  | none => n + (i - β.length)
def backC (md : Bool) (n : Nat) (β : List Nat) : MC → MC
  | .ref i off len => .ref (gam n β i) off len
  | .ptr i row off => .ptr (gam n β i) row off
  | .fz rows => match md with
    | true => .ag rows
    | false => .fz rows
  | .fptr c => match md with
    | true => .aptr c
    | false => .fptr c
  | .ag rows => .ag rows
  | .aptr c => .aptr c
  | .tr _ _ _ _ => .dead
  | c => c
def backV1 (md : Bool) (n : Nat) (β : List Nat) : MV → MV
  | .one c => .one (backC md n β c)
  | .agg cs => .agg (cs.map (backC md n β))
  | v => v
def backV (md : Bool) (n : Nat) (β : List Nat) : MV → MV
  | .tup vs => .tup (vs.map (backV1 md n β))
  | v => backV1 md n β v
def backO (md : Bool) (n : Nat) (β : List Nat) : Ob → Ob
  | .box cs => .box (cs.map (backC md n β))
  | .arr rows => match md with
    | true => .arr (rows.map fun r => r.map (backC true n β))
    | false => .arr rows
/-- An array's cells stay as they are. -/
def fixO (md : Bool) (n : Nat) (β : List Nat) : Ob → Prop
  | .box _ => True
  | .arr rows => md = false → ∀ r ∈ rows, ∀ c ∈ r, backC false n β c = c

def newO (md : Bool) (n : Nat) (β : List Nat) : Nat → List Ob → List (Nat × Ob)
  | _, [] => []
  | j, o :: os => (n + j, backO md n β o) :: newO md n β (j + 1) os
def updO (md : Bool) (n : Nat) (β0 : List Nat) : List (Nat × Ob) → List Nat → List Ob → List (Nat × Ob)
  | st, id :: β, o :: os => updO md n β0 (upd st id (backO md n β0 o)) β os
  | st, _, _ => st
def conS (md : Bool) (s : S) (β : List Nat) (os' : List Ob) : S :=
  ⟨s.m, s.n + (os'.length - β.length), s.env, newO md s.n β 0 (os'.drop β.length) ++ updO md s.n β s.st β os'⟩

theorem look_app {α : Type} : ∀ (l1 l2 : List (Nat × α)) (j : Nat), look (l1 ++ l2) j = match look l1 j with
    | some x => some x
    | none => look l2 j
  | [], l2, j => rfl
  | (k, v) :: l1, l2, j => by
    rw [List.cons_append, look_cons, look_cons, look_app l1 l2 j]
    split <;> rfl
theorem look_newO {md : Bool} {n : Nat} {β : List Nat} : ∀ (os : List Ob) (k j : Nat), look (newO md n β k os) j = if n + k ≤ j then (os[j - (n + k)]?).map (backO md n β) else none
  | [], k, j => by simp [newO]
  | o :: os, k, j => by
    rw [newO, look_cons, look_newO os (k + 1) j]
    by_cases e : j = n + k
    · subst e; simp
    · by_cases h : n + k ≤ j
      · rw [if_neg e, if_pos (by omega), if_pos h, show j - (n + k) = (j - (n + (k + 1))) + 1 by omega, List.getElem?_cons_succ]
      · rw [if_neg e, if_neg (by omega), if_neg h]
theorem look_updO {md : Bool} {n : Nat} {β0 : List Nat} : ∀ (β : List Nat) (os : List Ob) (st : List (Nat × Ob)), β.Nodup → β.length ≤ os.length → (∀ id ∈ β, (look st id).isSome = true) →
    (∀ (i : Nat) (id : Nat), β[i]? = some id → look (updO md n β0 st β os) id = (os[i]?).map (backO md n β0)) ∧ (∀ id, id ∉ β → look (updO md n β0 st β os) id = look st id)
  | [], os, st, _, _, _ => ⟨fun i id h => by simp at h, fun id _ => by cases os <;> rfl⟩
  | b :: β, [], st, _, hl, _ => by simp at hl
  | b :: β, o :: os, st, hn, hl, hs => by
    obtain ⟨hb, hn⟩ := List.nodup_cons.1 hn
    have hsome : ∀ id, (look (upd st b (backO md n β0 o)) id).isSome = (look st id).isSome := fun id => by
      rw [look_upd]
      split
      · rename_i h; rw [h.1]; simp [h.2]
      · rfl
    obtain ⟨h1, h2⟩ := look_updO β os (upd st b (backO md n β0 o)) hn (by simpa using hl) (fun id hid => by rw [hsome]; exact hs id (List.mem_cons_of_mem _ hid))
    refine ⟨fun i id hi => ?_, fun id hid => ?_⟩
    · cases i with
      | zero =>
        obtain rfl : b = id := by simpa using hi
        show look (updO md n β0 _ β os) b = _
        rw [h2 b hb, look_upd, if_pos ⟨rfl, hs b (by simp)⟩]; rfl
      | succ i => exact h1 i id (by simpa using hi)
    · show look (updO md n β0 _ β os) id = _
      have : id ≠ b := fun e => hid (by simp [e])
      rw [h2 id (fun h => hid (List.mem_cons_of_mem _ h)), look_upd, if_neg (fun h => this h.1)]

/-- What a caller's state is behind a call that was handed objects. -/
structure ConLook (md : Bool) (s : S) (β : List Nat) (os' : List Ob) : Prop where
  at_ : ∀ i, i < os'.length → look (conS md s β os').st (gam s.n β i) = (os'[i]?).map (backO md s.n β)
  inv : ∀ id o, look (conS md s β os').st id = some o → (∃ i, i < os'.length ∧ id = gam s.n β i) ∨ (id ∉ β ∧ look s.st id = some o)
  old : ∀ id, id ∉ β → id < s.n → look (conS md s β os').st id = look s.st id

theorem gam_lt {n : Nat} {β : List Nat} {i : Nat} (h : i < β.length) : ∃ id, β[i]? = some id ∧ gam n β i = id := by
  obtain ⟨id, hid⟩ : ∃ id, β[i]? = some id := ⟨β[i], List.getElem?_eq_getElem h⟩
  exact ⟨id, hid, by simp [gam, hid]⟩
theorem gam_ge {n : Nat} {β : List Nat} {i : Nat} (h : β.length ≤ i) : gam n β i = n + (i - β.length) := by
  simp [gam, List.getElem?_eq_none h]

theorem conLook {md : Bool} {s : S} {β : List Nat} {os' : List Ob} (hn : β.Nodup) (hl : β.length ≤ os'.length) (hs : ∀ id ∈ β, (look s.st id).isSome = true) (hlt : ∀ id o, look s.st id = some o → id < s.n) : ConLook md s β os' := by
  have hβ : ∀ id ∈ β, id < s.n := fun id hid => by
    obtain ⟨o, ho⟩ := Option.isSome_iff_exists.1 (hs id hid); exact hlt id o ho
  obtain ⟨h1, h2⟩ := look_updO (md := md) (n := s.n) (β0 := β) β os' s.st hn hl hs
  have hlow : ∀ id, id < s.n → look (conS md s β os').st id = look (updO md s.n β s.st β os') id := fun id hid => by
    show look (_ ++ _) id = _
    rw [look_app, look_newO, if_neg (by omega)]
  have hhigh : ∀ id, s.n ≤ id → look (conS md s β os').st id = (os'[β.length + (id - s.n)]?).map (backO md s.n β) := fun id hid => by
    show look (_ ++ _) id = _
    rw [look_app, look_newO, if_pos (by omega), List.getElem?_drop, show id - (s.n + 0) = id - s.n by omega]
    cases e : os'[β.length + (id - s.n)]? with
    | some o => rfl
    | none =>
      show look (updO md s.n β s.st β os') id = none
      rw [h2 id (fun h => by have := hβ id h; omega)]
      cases e2 : look s.st id with
      | none => rfl
      | some o => have := hlt id o e2; omega
  refine ⟨fun i hi => ?_, fun id o ho => ?_, fun id hid hlt' => by rw [hlow id hlt', h2 id hid]⟩
  · by_cases hk : i < β.length
    · obtain ⟨id, hid, hg⟩ := gam_lt (n := s.n) hk
      rw [hg, hlow id (hβ id (List.mem_of_getElem? hid)), h1 i id hid]
    · rw [gam_ge (by omega), hhigh _ (by omega)]
      congr 2; omega
  · by_cases hge : s.n ≤ id
    · rw [hhigh id hge] at ho
      obtain ⟨x, hx, _⟩ := Option.map_eq_some_iff.1 ho
      have hlt' := (List.getElem?_eq_some_iff.1 hx).1
      exact .inl ⟨β.length + (id - s.n), hlt', by rw [gam_ge (by omega)]; omega⟩
    · by_cases hm : id ∈ β
      · obtain ⟨i, hi⟩ := List.getElem?_of_mem hm
        have hil := (List.getElem?_eq_some_iff.1 hi).1
        exact .inl ⟨i, by omega, by obtain ⟨id', h3, h4⟩ := gam_lt (n := s.n) hil; rw [h4]; rw [hi] at h3; exact Option.some.inj h3⟩
      · rw [hlow id (by omega), h2 id hm] at ho
        exact .inr ⟨hm, ho⟩

theorem gam_inj {n : Nat} {β : List Nat} (hn : β.Nodup) (hβ : ∀ id ∈ β, id < n) {i j : Nat} (h : gam n β i = gam n β j) : i = j := by
  by_cases hi : i < β.length <;> by_cases hj : j < β.length
  · obtain ⟨x, hx, gx⟩ := gam_lt (n := n) hi
    obtain ⟨y, hy, gy⟩ := gam_lt (n := n) hj
    rw [gx, gy] at h
    subst h
    have h1 := (List.getElem?_eq_some_iff.1 hx).2
    have h2 := (List.getElem?_eq_some_iff.1 hy).2
    rcases Nat.lt_trichotomy i j with hij | hij | hij
    · exact absurd (h1.trans h2.symm) (List.pairwise_iff_getElem.1 hn i j hi hj hij)
    · exact hij
    · exact absurd (h2.trans h1.symm) (List.pairwise_iff_getElem.1 hn j i hj hi hij)
  · obtain ⟨x, hx, gx⟩ := gam_lt (n := n) hi
    rw [gx, gam_ge (by omega)] at h
    have := hβ x (List.mem_of_getElem? hx); omega
  · obtain ⟨y, hy, gy⟩ := gam_lt (n := n) hj
    rw [gy, gam_ge (by omega)] at h
    have := hβ y (List.mem_of_getElem? hy); omega
  · rw [gam_ge (by omega), gam_ge (by omega)] at h; omega

theorem gam_bd {n : Nat} {β : List Nat} (hβ : ∀ id ∈ β, id < n) {m i : Nat} (hl : β.length ≤ m) (hi : i < m) : gam n β i < n + (m - β.length) := by
  by_cases h : i < β.length
  · obtain ⟨x, hx, gx⟩ := gam_lt (n := n) h
    rw [gx]; have := hβ x (List.mem_of_getElem? hx); omega
  · rw [gam_ge (by omega)]; omega

section
variable {md : Bool} {s : S} {β : List Nat} {os' : List Ob} {L L' Ln : Lay} {w' : World} {F : FF} {F1 N A : Nat → Prop}

theorem backO_arr {n : Nat} {o : Ob} {rows : List (List MC)} (h : backO md n β o = .arr rows) : ∃ r, o = .arr r ∧ r.length = rows.length := by
  cases o with
  | box cs => cases h
  | arr r =>
    cases md
    · obtain rfl := Ob.arr.inj h; exact ⟨_, rfl, rfl⟩
    · obtain rfl := Ob.arr.inj h; exact ⟨_, rfl, by simp⟩

/-- What is frozen behind a call: F1 is new, or the frozen blocks N that were handed over; A: all that was read. -/
structure FrOK (md : Bool) (F : FF) (N A : Nat → Prop) : Prop where
  all : ∀ b, A b → F.all b
  sub : ∀ b, N b → A b
  fz : md = false → ∀ b, N b → F.n b
def newF (F : FF) (F1 A : Nat → Prop) : FF := ⟨fun b => F.n b ∨ (F1 b ∧ ¬ A b), F.a⟩
theorem FrOK.n {md : Bool} {F : FF} {F1 N A : Nat → Prop} (h : FrOK md F N A) (hm : md = false) (b : Nat) (hb : F1 b) : (newF F F1 N).n b := by
  by_cases h1 : N b
  · exact .inl (h.fz hm b h1)
  · exact .inr ⟨hb, h1⟩
theorem FrOK.al {md : Bool} {F : FF} {F1 N A : Nat → Prop} (h : FrOK md F N A) (b : Nat) (hb : F1 b) : (newF F F1 N).all b := by
  by_cases h1 : N b
  · exact (h.all b (h.sub b h1)).imp Or.inl fun h => h
  · exact .inl (.inr ⟨hb, h1⟩)
theorem FrOK.al2 {md : Bool} {F : FF} {F1 N A : Nat → Prop} (h : FrOK md F N A) (b : Nat) (hb : (FF.mk F1 A).all b) : (newF F F1 N).all b := by
  rcases hb with hb | hb
  · exact h.al b hb
  · exact (h.all b hb).imp Or.inl fun h => h
theorem newF_le {F : FF} {F1 A : Nat → Prop} : F.le (newF F F1 A) := ⟨fun _ h => Or.inl h, fun _ h => h, fun _ h => h⟩

theorem RC.back (hlk : ConLook md s β os') (hL : ∀ i, i < os'.length → Ln (gam s.n β i) = L' i) (hA : FrOK md F N A) {c : MC} {v : Value} (hb : c.bd os'.length) (h : RC (nth os') L' w' ⟨F1, A⟩ c v) :
    RC (look (conS md s β os').st) Ln w' (newF F F1 N) (backC md s.n β c) v := by
  have hone := h.one
  cases c with
  | dead => exact h
  | sc u => exact h
  | nil => exact h
  | own => exact h.elim
  | fz rows =>
    cases md
    · exact RF.mono (fun _ _ => rfl) (hA.n rfl) h
    · exact RF.mono (fun _ _ => rfl) hA.al h
  | fptr cells =>
    obtain ⟨b, o, h1, h2, h3⟩ := h
    cases md
    · exact ⟨b, o, hA.n rfl b h1, h2, fun j c hj => by obtain ⟨u, h4, h5⟩ := h3 j c hj; exact ⟨u, h4, h5.mono (fun _ _ => rfl) (hA.n rfl)⟩⟩
    · exact ⟨b, o, hA.al b h1, h2, fun j c hj => by obtain ⟨u, h4, h5⟩ := h3 j c hj; exact ⟨u, h4, h5.mono (fun _ _ => rfl) hA.al⟩⟩
  | aptr cells =>
    obtain ⟨b, o, h1, h2, h3⟩ := h
    exact ⟨b, o, hA.al2 b h1, h2, fun j c hj => by obtain ⟨u, h4, h5⟩ := h3 j c hj; exact ⟨u, h4, h5.mono (fun _ _ => rfl) hA.al2⟩⟩
  | ag rows => exact RF.mono (fun _ _ => rfl) hA.al2 h
  | tr _ _ _ _ => exact hone
  | ref i off len =>
    have hi : i < os'.length := hb
    refine ⟨h.1, fun rows hr => ?_⟩
    rw [hlk.at_ i hi] at hr
    obtain ⟨o, ho, he⟩ := Option.map_eq_some_iff.1 hr
    obtain ⟨r0, rfl, hr0⟩ := backO_arr he
    obtain ⟨a, cap, h1, h2, h3⟩ := h.2 r0 ho
    refine ⟨a, cap, h1, by omega, h3.imp (fun ⟨b, t, h4, h5, h6, h7, h8⟩ => ⟨b, t, by rw [hL i hi]; exact h4, h5, h6, fun e => h7 (List.eq_nil_of_length_eq_zero (by rw [hr0, e]; rfl)), h8⟩) id⟩
  | ptr i row off =>
    have hi : i < os'.length := hb
    refine ⟨h.1, fun hr => ?_⟩
    obtain ⟨b, t, h1, h2⟩ := h.2 (by show (os'[i]?).isSome = true; rw [List.getElem?_eq_getElem hi]; rfl)
    exact ⟨b, t, by rw [hL i hi]; exact h1, h2⟩

theorem backC_bd (hβ : ∀ id ∈ β, id < s.n) (hl : β.length ≤ os'.length) {c : MC} (hb : c.bd os'.length) : (backC md s.n β c).bd (s.n + (os'.length - β.length)) := by
  cases c with
  | ref i off len => exact gam_bd hβ hl hb
  | ptr i off len => exact gam_bd hβ hl hb
  | fz rows => cases md <;> trivial
  | fptr rows => cases md <;> trivial
  | _ => trivial

theorem RV1.back (hlk : ConLook md s β os') (hL : ∀ i, i < os'.length → Ln (gam s.n β i) = L' i) (hA : FrOK md F N A) {x : MV} {v : Value} (hb : x.bd1 os'.length) (h : RV1 (nth os') L' w' ⟨F1, A⟩ x v) :
    RV1 (look (conS md s β os').st) Ln w' (newF F F1 N) (backV1 md s.n β x) v := by
  cases x with
  | un => trivial
  | one c => exact RC.back hlk hL hA hb h
  | agg cs =>
    obtain ⟨arr, rfl, h1, h2⟩ := h
    refine ⟨arr, rfl, by simpa using h1, fun j c hj => ?_⟩
    rw [List.getElem?_map] at hj
    obtain ⟨d, hd, rfl⟩ := Option.map_eq_some_iff.1 hj
    obtain ⟨u, hu, hr⟩ := h2 j d hd
    exact ⟨u, hu, RC.back hlk hL hA (hb d (List.mem_of_getElem? hd)) hr⟩
  | tup vs => exact h.elim

theorem RV.back (hlk : ConLook md s β os') (hL : ∀ i, i < os'.length → Ln (gam s.n β i) = L' i) (hA : FrOK md F N A) {x : MV} {v : Value} (hb : x.bd os'.length) (h : RV (nth os') L' w' ⟨F1, A⟩ x v) :
    RV (look (conS md s β os').st) Ln w' (newF F F1 N) (backV md s.n β x) v := by
  cases x with
  | un => trivial
  | one c => exact RV1.back (x := .one c) hlk hL hA hb h
  | agg cs => exact RV1.back (x := .agg cs) hlk hL hA hb h
  | tup vs =>
    obtain ⟨arr, rfl, h1, h2⟩ := h
    refine ⟨arr, rfl, by simpa using h1, fun j c hj => ?_⟩
    rw [List.getElem?_map] at hj
    obtain ⟨d, hd, rfl⟩ := Option.map_eq_some_iff.1 hj
    obtain ⟨u, hu, hr⟩ := h2 j d hd
    exact ⟨u, hu, RV1.back hlk hL hA (hb d (List.mem_of_getElem? hd)) hr⟩

theorem backV1_bd (hβ : ∀ id ∈ β, id < s.n) (hl : β.length ≤ os'.length) {x : MV} (hb : x.bd1 os'.length) : (backV1 md s.n β x).bd1 (s.n + (os'.length - β.length)) := by
  cases x with
  | one c => exact backC_bd hβ hl hb
  | agg cs =>
    intro c hc
    obtain ⟨d, hd, rfl⟩ := List.mem_map.1 hc
    exact backC_bd hβ hl (hb d hd)
  | _ => trivial
theorem backV_bd (hβ : ∀ id ∈ β, id < s.n) (hl : β.length ≤ os'.length) {x : MV} (hb : x.bd os'.length) : (backV md s.n β x).bd (s.n + (os'.length - β.length)) := by
  cases x with
  | one c => exact backV1_bd (x := .one c) hβ hl hb
  | agg cs => exact backV1_bd (x := .agg cs) hβ hl hb
  | un => trivial
  | tup vs =>
    intro c hc
    obtain ⟨d, hd, rfl⟩ := List.mem_map.1 hc
    exact backV1_bd hβ hl (hb d hd)

theorem ObOK.back (hlk : ConLook md s β os') (hL : ∀ i, i < os'.length → Ln (gam s.n β i) = L' i) (hA : FrOK md F N A) {i : Nat} (hi : i < os'.length) {o : Ob} (hb : o.bd os'.length) (hf : fixO md s.n β o) (h : ObOK (nth os') L' w' ⟨F1, A⟩ i o) :
    ObOK (look (conS md s β os').st) Ln w' (newF F F1 N) (gam s.n β i) (backO md s.n β o) := by
  cases o with
  | box cs =>
    obtain ⟨b, t, h1, h2, h3⟩ := h
    refine ⟨b, t, by rw [hL i hi]; exact h1, h2, fun j c hj => ?_⟩
    rw [List.getElem?_map] at hj
    obtain ⟨d, hd, rfl⟩ := Option.map_eq_some_iff.1 hj
    obtain ⟨u, hu, hr⟩ := h3 j d hd
    exact ⟨u, hu, RC.back hlk hL hA (hb d (List.mem_of_getElem? hd)) hr⟩
  | arr rows =>
    cases md with
    | false =>
      rcases h with ⟨h1, h2⟩ | ⟨b, t, h1, h2, h3, h4⟩
      · exact .inl ⟨h1, by rw [hL i hi]; exact h2⟩
      · refine .inr ⟨b, t, by rw [hL i hi]; exact h1, h2, h3, fun k r hr j c hj => ?_⟩
        obtain ⟨u, hu, hrc⟩ := h4 k r hr j c hj
        have := RC.back (Ln := Ln) hlk hL hA (hb r (List.mem_of_getElem? hr) c (List.mem_of_getElem? hj)) hrc
        rw [hf rfl r (List.mem_of_getElem? hr) c (List.mem_of_getElem? hj)] at this
        exact ⟨u, hu, this⟩
    | true =>
      rcases h with ⟨rfl, h2⟩ | ⟨b, t, h1, h2, h3, h4⟩
      · exact .inl ⟨rfl, by rw [hL i hi]; exact h2⟩
      · refine .inr ⟨b, t, by rw [hL i hi]; exact h1, h2, fun r hr => ?_, fun k r hr j c hj => ?_⟩
        · obtain ⟨r0, hr0, rfl⟩ := List.mem_map.1 hr
          rw [List.length_map]; exact h3 r0 hr0
        · rw [List.getElem?_map] at hr
          obtain ⟨r0, hr0, rfl⟩ := Option.map_eq_some_iff.1 hr
          rw [List.getElem?_map] at hj
          obtain ⟨c0, hc0, rfl⟩ := Option.map_eq_some_iff.1 hj
          obtain ⟨u, hu, hrc⟩ := h4 k r0 hr0 j c0 hc0
          exact ⟨u, hu, RC.back (Ln := Ln) hlk hL hA (hb r0 (List.mem_of_getElem? hr0) c0 (List.mem_of_getElem? hc0)) hrc⟩

theorem backO_bd (hβ : ∀ id ∈ β, id < s.n) (hl : β.length ≤ os'.length) {o : Ob} (hb : o.bd os'.length) (hf : fixO md s.n β o) : (backO md s.n β o).bd (s.n + (os'.length - β.length)) := by
  cases o with
  | box cs =>
    intro c hc
    obtain ⟨d, hd, rfl⟩ := List.mem_map.1 hc
    exact backC_bd hβ hl (hb d hd)
  | arr rows =>
    cases md with
    | false =>
      intro r hr c hc
      have := backC_bd (md := false) hβ hl (hb r hr c hc)
      rwa [hf rfl r hr c hc] at this
    | true =>
      intro r hr c hc
      obtain ⟨r0, hr0, rfl⟩ := List.mem_map.1 hr
      obtain ⟨c0, hc0, rfl⟩ := List.mem_map.1 hc
      exact backC_bd hβ hl (hb r0 hr0 c0 hc0)
end

/-- THE STATE behind a call that was handed objects. -/
theorem con_core {w0 : World} {wr : Wr} {A0 : Nat → Prop} {L : Lay} {F : FF} {s : S} {a : Act} {w : World} (h : Rl w0 wr A0 L F s a w) {md : Bool} {β : List Nat} {os' : List Ob} {r : MV} {v : Value} {w' : World} {L0 L' : Lay} {F1 N A : Nat → Prop} {m k : Nat}
    (hn : β.Nodup) (hk : β.length = k) (hL0 : ∀ (i id : Nat), β[i]? = some id → L0 i = L id) (hs : ∀ id ∈ β, (look s.st id).isSome = true) (hA : ∀ b, A b → F.all b) (hN : ∀ b, N b → A b) (hA1 : md = false → ∀ b, N b → F.n b) (post : ConPost w N A L0 m k r os' v w' L' F1)
    (hcs : ∀ i t b, k ≤ i → i < m → L0 i = some (b, t) → ¬ F.all b ∧ b < w.heap.size ∧ (w0.heap.size ≤ b ∨ wr b) ∧ ∀ id t', (look s.st id).isSome = true → L id ≠ some (b, t'))
    (like : ∀ (i id : Nat) (o o' : Ob), β[i]? = some id → look s.st id = some o → os'[i]? = some o' → o.like o') (fix : ∀ o ∈ os', fixO md s.n β o) :
    ∃ (L2 : Lay) (F2 : FF), Rl w0 wr A0 L2 F2 (conS md s β os') a w' ∧ RV (look (conS md s β os').st) L2 w' F2 (backV md s.n β r) v ∧ (backV md s.n β r).bd (conS md s β os').n := by
  have hlt : ∀ id o, look s.st id = some o → id < s.n := fun id o ho => (h.bst id o ho).1
  have hβ : ∀ id ∈ β, id < s.n := fun id hid => by
    obtain ⟨o, ho⟩ := Option.isSome_iff_exists.1 (hs id hid); exact hlt id o ho
  have hl : β.length ≤ os'.length := hk ▸ post.len
  have hlk := conLook (md := md) hn hl hs hlt
  have hFr : FrOK md F N A := ⟨hA, hN, hA1⟩
  let Ln : Lay := fun id => if id < s.n then L id else L' (k + (id - s.n))
  have hLlow : ∀ id, id < s.n → Ln id = L id := fun id hid => if_pos hid
  have hLn : ∀ i, i < os'.length → Ln (gam s.n β i) = L' i := fun i hi => by
    by_cases hik : i < β.length
    · obtain ⟨id, hid, hg⟩ := gam_lt (n := s.n) hik
      rw [hg, hLlow id (hβ id (List.mem_of_getElem? hid)), ← hL0 i id hid, post.lay i (by omega)]
    · rw [gam_ge (by omega)]
      show (if _ then _ else _) = _
      rw [if_neg (by omega)]; congr 1; omega
  have hblk : ∀ i t b, i < k → L0 i = some (b, t) → ∃ id, β[i]? = some id ∧ (look s.st id).isSome = true ∧ L id = some (b, t) := fun i t b hi hb => by
    obtain ⟨id, hid, _⟩ := gam_lt (n := s.n) (β := β) (i := i) (by omega)
    exact ⟨id, hid, hs id (List.mem_of_getElem? hid), by rw [← hL0 i id hid]; exact hb⟩
  have hw : ∀ b, F.all b → w'.heap[b]? = w.heap[b]? := fun b hb => post.keep b (h.fsz b hb) fun i t hi hL => by
    by_cases hik : k ≤ i
    · exact (hcs i t b hik hi hL).1 hb
    have hi : i < k := by omega
    obtain ⟨id, _, h1, h2⟩ := hblk i t b hi hL
    exact (h.own id b t h1 h2).1 hb
  have hfr : ∀ id b t, id ∉ β → (look s.st id).isSome = true → L id = some (b, t) → w'.heap[b]? = w.heap[b]? := fun id b t hid h1 h2 => post.keep b (h.own id b t h1 h2).2.1 fun i t' hi hL => by
    by_cases hik : k ≤ i
    · exact (hcs i t' b hik hi hL).2.2.2 id t h1 h2
    have hi : i < k := by omega
    obtain ⟨id', h3, h4, h5⟩ := hblk i t' b hi hL
    exact hid (h.inj id id' b t t' h1 h4 h2 h5 ▸ List.mem_of_getElem? h3)
  have hold : ∀ id o, look (conS md s β os').st id = some o → id < s.n → ∃ q, look s.st id = some q ∧ q.like o := fun id o ho hid => by
    rcases hlk.inv id o ho with ⟨i, hi, hg⟩ | ⟨h1, h2⟩
    · by_cases hik : i < β.length
      · obtain ⟨id', h3, h4⟩ := gam_lt (n := s.n) hik
        obtain rfl : id = id' := hg.trans h4
        obtain ⟨q, hq⟩ := Option.isSome_iff_exists.1 (hs id (List.mem_of_getElem? h3))
        have h5 := hlk.at_ i hi
        rw [h4, ho] at h5
        obtain ⟨o', h6, h7⟩ := Option.map_eq_some_iff.1 h5.symm
        have := like i id q o' h3 hq h6
        refine ⟨q, hq, ?_⟩
        rw [← h7]
        cases o' <;> cases q <;> first | exact this | (cases md <;> first | exact this | (simp only [backO, Ob.like, List.length_map] at this ⊢; exact this))
      · rw [gam_ge (by omega)] at hg; omega
    · exact ⟨o, h2, by cases o <;> simp [Ob.like]⟩
  have hi : ∀ x : MC, x.bd s.n → ∀ u, RC (look s.st) L w F x u → RC (look (conS md s β os').st) Ln w' (newF F F1 N) x u := fun x hx u hr => by
    cases x with
    | dead => exact hr
    | sc u => exact hr
    | nil => exact hr
    | own => exact hr.elim
    | fz rows => exact RF.mono (fun b hb => hw b (.inl hb)) (fun b hb => Or.inl hb) hr
    | ag rows => exact RF.mono hw (fun b hb => hb.imp Or.inl id) hr
    | tr o B u' rows => exact ⟨hr.1, fun b hb => ⟨(hr.2.1 b hb).1.imp Or.inl id, fun ho => ⟨.inl ((hr.2.1 b hb).2 ho).1, ((hr.2.1 b hb).2 ho).2⟩⟩, hr.2.2.mono fun b hb => hw b (hr.2.1 b hb).1⟩
    | fptr cells =>
      obtain ⟨b, o, h1, h2, h3⟩ := hr
      exact ⟨b, o, .inl h1, h2, fun j c hj => by
        obtain ⟨u, h4, h5⟩ := h3 j c hj
        exact ⟨u, by rw [World.cell?_of_block (w := w) (hw b (.inl h1))]; exact h4, h5.mono (fun b hb => hw b (.inl hb)) fun b hb => Or.inl hb⟩⟩
    | aptr cells =>
      obtain ⟨b, o, h1, h2, h3⟩ := hr
      exact ⟨b, o, h1.imp Or.inl id, h2, fun j c hj => by
        obtain ⟨u, h4, h5⟩ := h3 j c hj
        exact ⟨u, by rw [World.cell?_of_block (w := w) (hw b h1)]; exact h4, h5.mono hw fun b hb => hb.imp Or.inl id⟩⟩
    | ref id off len =>
      refine ⟨hr.1, fun rows hrw => ?_⟩
      obtain ⟨q, hq, hlike⟩ := hold id _ hrw hx
      cases q with
      | box cs => exact hlike.elim
      | arr rows0 =>
        have hlike : rows0.length ≤ rows.length := hlike
        obtain ⟨a, cap, h1, h2, h3⟩ := hr.2 rows0 hq
        refine ⟨a, cap, h1, Nat.le_trans h2 hlike, h3.imp (fun ⟨b, t, h4, h5, h6, h7, h8⟩ => ⟨b, t, by rw [hLlow id hx]; exact h4, h5, h6, fun e => h7 ?_, fun j hj => post.kc b j (h.own id b t (by rw [hq]; rfl) h4).2.1 (h8 j hj)⟩) fun h => h⟩
        rw [e] at hlike
        exact List.eq_nil_of_length_eq_zero (Nat.le_zero.1 hlike)
    | ptr id row off =>
      refine ⟨hr.1, fun hsm => ?_⟩
      obtain ⟨o, ho⟩ := Option.isSome_iff_exists.1 hsm
      obtain ⟨q, hq, _⟩ := hold id o ho hx
      obtain ⟨b, t, h1, h2⟩ := hr.2 (by rw [hq]; rfl)
      exact ⟨b, t, by rw [hLlow id hx]; exact h1, h2⟩
  -- what a name's block is
  have hcase : ∀ id b t, (look (conS md s β os').st id).isSome = true → Ln id = some (b, t) → (id < s.n ∧ (look s.st id).isSome = true ∧ L id = some (b, t)) ∨ (∃ i, k ≤ i ∧ i < os'.length ∧ id = gam s.n β i ∧ L' i = some (b, t)) := fun id b t h1 h2 => by
    obtain ⟨o, ho⟩ := Option.isSome_iff_exists.1 h1
    by_cases hid : id < s.n
    · obtain ⟨q, hq, _⟩ := hold id o ho hid
      exact .inl ⟨hid, by rw [hq]; rfl, by rw [← hLlow id hid]; exact h2⟩
    · rcases hlk.inv id o ho with ⟨i, hi', hg⟩ | ⟨_, h4⟩
      · refine .inr ⟨i, ?_, hi', hg, by rw [← hLn i hi', ← hg]; exact h2⟩
        by_cases hik : i < β.length
        · obtain ⟨id', h3, h4⟩ := gam_lt (n := s.n) hik
          have := hβ id' (List.mem_of_getElem? h3)
          rw [h4] at hg; omega
        · omega
      · exact absurd (hlt id o h4) hid
  refine ⟨Ln, (newF F F1 N), ⟨post.os.trans h.os, post.tape.trans h.tape, post.output.trans h.output, Nat.le_trans h.size post.size, ?_, ?_, fun i hi => ⟨(hLlow i (h.pin i hi).2).trans (h.pin i hi).1, Nat.lt_of_lt_of_le (h.pin i hi).2 (Nat.le_add_right _ _)⟩, h.fa, ?_, ?_, ?_, ?_, ?_, h.sz, ?_, ?_, ?_, h.df⟩, RV.back hlk hLn hFr post.bd post.rv, backV_bd hβ hl post.bd⟩
  · intro b hb hnw
    rw [post.keep b (Nat.lt_of_lt_of_le hb h.size) fun i t hi hL => ?_]
    · exact h.keep b hb hnw
    · by_cases hik : k ≤ i
      · rcases (hcs i t b hik hi hL).2.2.1 with h3 | h3
        · omega
        · exact hnw h3
      have hi : i < k := by omega
      obtain ⟨id, _, h1, h2⟩ := hblk i t b hi hL
      rcases (h.own id b t h1 h2).2.2 with h3 | h3
      · omega
      · exact hnw h3
  · exact fun b j hb hc => post.kc b j (Nat.lt_of_lt_of_le hb h.size) (h.kc b j hb hc)
  · rintro b (hb | hb)
    · exact h.fn b hb
    · rcases post.fr b hb.1 hb.2 with h1 | ⟨j, u, h1, h2, h3⟩
      · exact .inl (Nat.le_trans h.size h1.1)
      · exact (hcs j u b h1 h2 h3).2.2.1.imp (fun h => h) Or.inl
  · rintro b ((hb | hb) | hb)
    · exact Nat.lt_of_lt_of_le (h.fsz b (.inl hb)) post.size
    · rcases post.fr b hb.1 hb.2 with h1 | ⟨j, u, h1, h2, h3⟩
      · exact h1.2
      · exact Nat.lt_of_lt_of_le (hcs j u b h1 h2 h3).2.1 post.size
    · exact Nat.lt_of_lt_of_le (h.fsz b (.inr hb)) post.size
  · intro id o ho
    rcases hlk.inv id o ho with ⟨i, hi', hg⟩ | ⟨h1, h2⟩
    · have h5 := hlk.at_ i hi'
      rw [← hg, ho] at h5
      obtain ⟨o', h6, h7⟩ := Option.map_eq_some_iff.1 h5.symm
      rw [← h7, hg]
      exact ObOK.back hlk hLn hFr hi' (post.obs.bd o' (List.mem_of_getElem? h6)) (fix o' (List.mem_of_getElem? h6)) (post.obs.ob i o' h6)
    · exact (h.ob id o h2).imp (h.bst id o h2).2 (hLlow id (hlt id o h2)) (fun b t hL => hfr id b t h1 (by rw [h2]; rfl) hL) hi
  · intro id b t h1 h2
    rcases hcase id b t h1 h2 with ⟨h3, h4, h5⟩ | ⟨i, h3, h4, h5, h6⟩
    · have := h.own id b t h4 h5
      refine ⟨?_, Nat.lt_of_lt_of_le this.2.1 post.size, this.2.2⟩
      rintro ((hb | hb) | hb)
      · exact this.1 (.inl hb)
      · rcases post.fr b hb.1 hb.2 with h1 | ⟨j, u, h1, h2, h3'⟩
        · have := this.2.1; omega
        · exact (hcs j u b h1 h2 h3').2.2.2 id t h4 h5
      · exact this.1 (.inr hb)
    · have hnf := post.obs.nf i b t h4 h6
      have hnew : (¬ F.all b) ∧ (w0.heap.size ≤ b ∨ wr b) := by
        rcases post.new i b t h3 h4 h6 with hge | ⟨j, u, hj1, hj2, hj3⟩
        · exact ⟨fun hb => by have := h.fsz b hb; omega, .inl (Nat.le_trans h.size hge)⟩
        · have := hcs j u b hj1 hj2 hj3; exact ⟨this.1, this.2.2.1⟩
      refine ⟨?_, hnf.2, hnew.2⟩
      rintro ((hb | hb) | hb)
      · exact hnew.1 (.inl hb)
      · exact hnf.1 (.inl hb.1)
      · exact hnew.1 (.inr hb)
  · intro i j b t u h1 h2 h3 h4
    rcases hcase i b t h1 h3 with ⟨a1, a2, a3⟩ | ⟨i1, a1, a2, a3, a4⟩ <;> rcases hcase j b u h2 h4 with ⟨b1, b2, b3⟩ | ⟨j1, b1, b2, b3, b4⟩
    · exact h.inj i j b t u a2 b2 a3 b3
    · have := (h.own i b t a2 a3).2.1
      rcases post.new j1 b u b1 b2 b4 with hge | ⟨j', u', c1, c2, c3⟩
      · omega
      · exact absurd a3 ((hcs j' u' b c1 c2 c3).2.2.2 i t a2)
    · have := (h.own j b u b2 b3).2.1
      rcases post.new i1 b t a1 a2 a4 with hge | ⟨j', u', c1, c2, c3⟩
      · omega
      · exact absurd b3 ((hcs j' u' b c1 c2 c3).2.2.2 j u b2)
    · rw [a3, b3, post.obs.inj i1 j1 b t u a2 b2 a4 b4]
  · exact fun t x hx => (h.env t x hx).imp (h.ben t x hx) hi
  · intro id o ho
    rcases hlk.inv id o ho with ⟨i, hi', hg⟩ | ⟨h1, h2⟩
    · have h5 := hlk.at_ i hi'
      rw [← hg, ho] at h5
      obtain ⟨o', h6, h7⟩ := Option.map_eq_some_iff.1 h5.symm
      rw [← h7, hg]
      exact ⟨gam_bd hβ hl hi', backO_bd hβ hl (post.obs.bd o' (List.mem_of_getElem? h6)) (fix o' (List.mem_of_getElem? h6))⟩
    · exact ⟨Nat.lt_of_lt_of_le (hlt id o h2) (Nat.le_add_right _ _), (h.bst id o h2).2.mono (Nat.le_add_right _ _)⟩
  · exact fun t x hx => (h.ben t x hx).mono (Nat.le_add_right _ _)

end Mg
