/- Parts of the abstract state logic and of the walks, one behind the other: Mg14, Mg21. No condition. -/
import Derived.Test.YtedgmfmhilihoaaP4
import Derived.Laws.BytesString
import Derived.Test.YtedgmfmhilihoaaP3
import Derived.Laws.StructEq
/- The abstract state logic, part 14: an operation's step, reckoned. No condition. -/
namespace Mg
open Go Go.RowKit
set_option linter.unusedVariables false

/-- What the proof knows ahead: an element's row, a call's result. -/
structure ConT : Type 1 where
  D : Type
  p : D → Prop
  r : D → MV
  os : D → List Ob
inductive Hint : Type 1 where
  | row (r : List MC)
  | rowf (g : Int → List MC)
  | res (r : MV)
  | resf (g : List MV → MV)
  | con (md : Bool) (β cs fs : List Nat) (C : List MV → List Ob → ConT)
  | tre (fl : Bool) (g : List MV → MV)
  | told (g : List MV → MV)
  | mark (g : MV → Int → MV × Int) (keep : List Nat) (upd : List (Nat × List (Nat × Nat))) (ids : List Nat) (ob : List (Nat × Nat × Nat))
def rowH : Option Hint → Int → Option Hint
  | some (.rowf g), n => some (.row (g n))
  | h, _ => h

def S.app2 (s : S) (rows : List (List MC)) (st : List (Nat × Ob)) (d : Option Nat) (n : Nat) : S := (s.app rows st).put d (.one (.ref s.n 0 n))

def stepLen (T : Tab) (s : S) : List Operand → List TypeId → Option (Prop × MV)
  | [x], [t] => match T t, evO s x with
    | some i, some v => match i.k with
      | .slice _ => match v with
        | .one (.ref id f l) => match look s.st id with
          | some (.arr _) => some (True, .one (.sc (.int .i64 l)))
          | _ => none
        | v => (lenV v).map fun n => (True, .one (.sc (.int .i64 n)))
      | .str => match v with
        | .one (.sc (.string b)) => some (True, .one (.sc (.int .i64 b.size)))
        | _ => none
      | _ => none
    | _, _ => none
  | _, _ => none

def stepMin (s : S) : List Operand → Option (Prop × MV)
  | [x, y] => match evO s x, evO s y with
    | some (.one (.sc (.int k a))), some (.one (.sc (.int _ b))) => some (True, .one (.sc (.int k (if b < a then b else a))))
    | _, _ => none
  | _ => none
theorem r_min {P : Program} {o : Oper} {s : S} {K : S → Prop} {x y : Operand} {ats : Array TypeId} {k k2 : IntKind} {a b : Int} (ho : o.op = .call { callee := .builtin .min, args := #[x, y], argTypes := ats })
    (hd : Oper.dok o s.m = true) (hx : evO s x = some (.one (.sc (.int k a)))) (hy : evO s y = some (.one (.sc (.int k2 b))))
    (c : K (s.put o.dst (.one (.sc (.int k (if b < a then b else a)))))) : OpOK P o s K :=
  OpOK.val (Oper.dok_spec hd) (fun w0 wr A L F act w h => by
    obtain ⟨⟨h1, _⟩, h2⟩ := evO_ok h hx
    obtain ⟨⟨h3, _⟩, h4⟩ := evO_ok h hy
    refine ⟨.int k (if b < a then b else a), ?_, ⟨rfl, rfl⟩, trivial⟩
    simp [execOp, ho, resolve, invoke, builtin, Builtin.min_, Builtin.min2, h1, h3]) c

/-- Rows of one byte each. -/
def byteRows : List (List MC) → Option (List Int)
  | [] => some []
  | [.sc (.int .u8 n)] :: rs => (byteRows rs).map (n :: ·)
  | _ => none
def strOf (ns : List Int) : ByteArray := ns.foldl (fun r n => r.push (UInt8.ofNat n.toNat)) ByteArray.empty
theorem byteRows_get : ∀ {rows : List (List MC)} {ns : List Int}, byteRows rows = some ns → rows = ns.map fun n => [.sc (.int .u8 n)]
  | [], ns, h => by obtain rfl := Option.some.inj h; rfl
  | [.sc (.int .u8 n)] :: rs, ns, h => by
    obtain ⟨ms, hm, rfl⟩ := Option.map_eq_some_iff.1 h
    rw [byteRows_get hm]; rfl
theorem RF.bytes {w : World} {F : Nat → Prop} {ns : List Int} {v : Value} (h : RF w F (.fz (ns.map fun n => [.sc (.int .u8 n)])) v) {P : Program} : (Conv.bytesToString v).run P w = .ok (.string (strOf ns)) w := by
  obtain ⟨a, cap, rfl, hcap, hb⟩ := h.fz_inv
  cases a with
  | none =>
    cases ns with
    | nil => simp [Conv.bytesToString, strOf]
    | cons n ns => obtain ⟨b, off, s, h1, _⟩ := hb (by simp); cases h1
  | some a =>
    have hl := run_loadCells_list (P := P) w a (ns.map (Value.int .u8)) fun j v hj => by
      rw [List.getElem?_map] at hj
      obtain ⟨n, hn, rfl⟩ := Option.map_eq_some_iff.1 hj
      have hrow : (ns.map fun n => [MC.sc (.int .u8 n)])[j]? = some [MC.sc (.int .u8 n)] := by rw [List.getElem?_map, hn]; rfl
      obtain ⟨b, off, s, h1, _, hs, hc⟩ := hb (by intro e; rw [e] at hrow; simp at hrow)
      obtain rfl := Option.some.inj h1
      have : s = 1 := by rw [← hs _ (List.mem_of_getElem? hrow)]; rfl
      subst this
      obtain ⟨u, hu, hr⟩ := hc j 0 _ _ hrow rfl
      cases hr with
      | sc _ _ => simpa [Addr.add_mid] using hu
    rw [List.length_map] at hl ⊢
    exact run_bytesToString w a _ cap ns hl

theorem r_bts {s : S} {o : Oper} {K : S → Prop} {P : Program} {T : Tab} {t t' e : TypeId} {x : Operand} {i i' ie : TI} {c : MC} {rows : List (List MC)} {ns : List Int} (hT : TOk P T) (ho : o.op = .convert t t' x) (hd : Oper.dok o s.m = true)
    (ht : T t = some i) (hk : i.k = .slice e) (he : T e = some ie) (hke : ie.k = .int .u8) (ht' : T t' = some i') (hk' : i'.k = .str) (hx : evO s x = some (.one c)) (hc : fzRows c = some rows) (hb : byteRows rows = some ns)
    (k : K (s.put o.dst (.one (.sc (.string (strOf ns)))))) : OpOK P o s K :=
  OpOK.val (Oper.dok_spec hd) (fun w0 wr A L F a w h => by
    obtain ⟨h1, _⟩ := evO_ok h hx
    obtain ⟨G, hG, _, _⟩ := fz_any h1 hc
    obtain rfl := byteRows_get hb
    have hs := hG.bytes (P := P)
    obtain ⟨b, cap, hv, _⟩ := hG.fz_inv
    refine ⟨.string (strOf ns), ?_, ⟨rfl, rfl⟩, trivial⟩
    rw [hv] at hs
    simp only [execOp, ho]
    rw [hv, Sem.run_bind, run_convert_bytes_string w t t' e b _ cap (hT.und_slice ht hk) (hT.und_int he hke) (hT.und_str ht' hk'), hs]
    simp) k

/-- A field of a struct that stands in a slot. -/
theorem r_field {s : S} {o : Oper} {K : S → Prop} {P : Program} {T : Tab} {t : TypeId} {x : Operand} {f off ft : Nat} {l : List (Nat × Nat)} {i fi : TI} {cs : List MC} {c : MC} (hT : TOk P T) (ho : o.op = .field t x f) (hd : Oper.dok o s.m = true)
    (ht : T t = some i) (hk : i.k = .struct l) (hf : l[f]? = some (off, ft)) (hft : T ft = some fi) (hfk : fi.k.agg = false) (hx : evO s x = some (.agg cs)) (hc : cs[off]? = some c) (k : K (s.put o.dst (.one c))) : OpOK P o s K :=
  OpOK.val (Oper.dok_spec hd) (fun w0 wr A L F a w h => by
    obtain ⟨⟨arr, hv, h1, h2⟩, hb⟩ := evO_ok h hx
    obtain ⟨u, hu, hr⟩ := h2 off c hc
    obtain ⟨fs, hu0, hm, hz⟩ := hT.und_struct ht hk
    have hfs : (fs.toList.map (fun f => (f.offset, f.type)))[f]? = some (off, ft) := by rw [hm]; exact hf
    rw [List.getElem?_map] at hfs
    obtain ⟨g, hg, hge⟩ := Option.map_eq_some_iff.1 hfs
    obtain ⟨rfl, rfl⟩ := Prod.mk.inj hge
    have hg' : fs[f]? = some g := by rw [← Array.getElem?_toList]; exact hg
    refine ⟨u, ?_, hr, hb c (List.mem_of_getElem? hc)⟩
    simp [execOp, ho, hv, Instr.field, run_underlying hu0, hg', asAgg, part, hT.isAgg hft hfk, hu]) k
theorem r_fieldS {s : S} {o : Oper} {K : S → Prop} {P : Program} {T : Tab} {t : TypeId} {x : Operand} {f off ft : Nat} {l l' : List (Nat × Nat)} {i fi : TI} {cs : List MC} (hT : TOk P T) (ho : o.op = .field t x f) (hd : Oper.dok o s.m = true)
    (ht : T t = some i) (hk : i.k = .struct l) (hf : l[f]? = some (off, ft)) (hft : T ft = some fi) (hfk : fi.k = .struct l') (hx : evO s x = some (.agg cs)) (hc : off + fi.size ≤ cs.length) (k : K (s.put o.dst (.agg ((cs.drop off).take fi.size)))) : OpOK P o s K :=
  OpOK.val (Oper.dok_spec hd) (fun w0 wr A L F a w h => by
    obtain ⟨⟨arr, hv, h1, h2⟩, hb⟩ := evO_ok h hx
    obtain ⟨fs, hu0, hm, hz⟩ := hT.und_struct ht hk
    obtain ⟨gs, hu1, _, _⟩ := hT.und_struct hft hfk
    have hfs : (fs.toList.map (fun f => (f.offset, f.type)))[f]? = some (off, ft) := by rw [hm]; exact hf
    rw [List.getElem?_map] at hfs
    obtain ⟨g, hg, hge⟩ := Option.map_eq_some_iff.1 hfs
    obtain ⟨rfl, rfl⟩ := Prod.mk.inj hge
    have hg' : fs[f]? = some g := by rw [← Array.getElem?_toList]; exact hg
    have ha : (isAgg g.type).run P w = .ok true w := by
      unfold Go.isAgg
      simp [run_underlying hu1]
    have hs := hT.size hft w
    refine ⟨.agg (arr.extract g.offset (g.offset + fi.size)), ?_, ⟨_, rfl, ?_, fun j c hj => ?_⟩, fun c hc' => hb c (List.mem_of_mem_drop (List.mem_of_mem_take hc'))⟩
    · simp [execOp, ho, hv, Instr.field, run_underlying hu0, hg', asAgg, part, ha, hs]
    · simp; omega
    · rw [List.getElem?_take] at hj
      split at hj
      · rw [List.getElem?_drop] at hj
        obtain ⟨u, hu, hr⟩ := h2 _ c hj
        refine ⟨u, ?_, hr⟩
        rw [Array.getElem?_extract]
        rw [if_pos (by omega)]
        exact hu
      · cases hj) k

def stepV (T : Tab) (s : S) : Op → Option (Prop × MV)
  | .move x => (evO s x).map fun v => (True, v)
  | .assign x => (evO s x).map fun v => (True, v)
  | .pick c x y => match evO s c with
    | some (.one (.sc (.bool true))) => (evO s x).map fun v => (True, v)
    | some (.one (.sc (.bool false))) => (evO s y).map fun v => (True, v)
    | _ => none
  | .binOp op t x y _ => match evO s x, evO s y with
    | some (.one (.sc (.bool a))), some (.one (.sc (.bool b))) => match T t with
      | some i => match i.k, op with
        | .bool, .eql => some (True, .one (.sc (.bool (a == b))))
        | .bool, .neq => some (True, .one (.sc (.bool (!(a == b)))))
        | _, _ => none
      | none => none
    | some (.one (.sc u)), some (.one (.sc v)) => (binV op u v).map fun q => (q.1, .one (.sc q.2))
    | _, _ => none
  | .unOp .not _ x => match evO s x with
    | some (.one (.sc (.bool b))) => some (True, .one (.sc (.bool (!b))))
    | _ => none
  | .unOp .neg _ x => match evO s x with
    | some (.one (.sc (.int k n))) => some (True, .one (.sc (.int k (k.wrap (0 - n)))))
    | _ => none
  | .convert t t' x => match T t, T t', evO s x with
    | some i, some i', some (.one (.sc (.int k n))) => match i.k, i'.k with
      | .int k1, .int k2 => if k1 = k then some (True, .one (.sc (.int k2 (k2.wrap n)))) else none
      | _, _ => none
    | some i, some i', some (.one c) => match i.k, i'.k, fzRows c with
      | .slice e, .str, some rows => match T e with
        | some ie => match ie.k, byteRows rows with
          | .int .u8, some ns => some (True, .one (.sc (.string (strOf ns))))
          | _, _ => none
        | none => none
      | _, _, _ => none
    | _, _, _ => none
  | .nilCheck x => match evO s x with
    | some (.one c) => match okP (look s.st) c with
      | true => some (True, .one c)
      | false => none
    | _ => none
  | .extract x i => match evO s x with
    | some (.tup vs) => match vs[i]? with
      | some (.one c) => some (True, .one c)
      | some (.agg cs) => some (True, .agg cs)
      | _ => none
    | _ => none
  | .fieldAddr t x f => match T t, evO s x with
    | some i, some (.one c) => match i.k with
      | .struct l => match l[f]?, okP (look s.st) c with
        | some (off, _), true => some (True, .one (ptrAdd c off))
        | _, _ => none
      | _ => none
    | _, _ => none
  | .field t x f => match T t, evO s x with
    | some i, some (.agg cs) => match i.k with
      | .struct l => match l[f]? with
        | some (off, ft) => match T ft with
          | some fi => match fi.k with
            | .struct _ => some (off + fi.size ≤ cs.length, .agg ((cs.drop off).take fi.size))
            | .arr _ _ => none
            | .other => none
            | _ => match cs[off]? with
              | some c => some (True, .one c)
              | none => none
          | none => none
        | none => none
      | _ => none
    | _, _ => none
  | .load t x => match T t, evO s x with
    | some i, some (.one c) => match ptrCells s c with
      | some cs => match i.k with
        | .struct _ => some (i.size ≤ cs.length, .agg (cs.take i.size))
        | .arr _ _ => some (i.size ≤ cs.length, .agg (cs.take i.size))
        | .other => none
        | _ => some (0 < cs.length, .one (cs.getD 0 .dead))
      | none => none
    | _, _ => none
  | .call c => match c.callee with
    | .builtin .len => stepLen T s c.args.toList c.argTypes.toList
    | .builtin .min => stepMin s c.args.toList
    | _ => none
  | _ => none

variable {P : Program} {T : Tab}

theorem stepV_ok {s : S} {o : Oper} {p : Prop} {v : MV} {K : S → Prop} (hT : TOk P T) (hd : Oper.dok o s.m = true) (h : stepV T s o.op = some (p, v)) (hp : p) (k : K (s.put o.dst v)) : OpOK P o s K := by
  generalize ho : o.op = op at h
  unfold stepV at h
  split at h
  · obtain ⟨v', hv, he⟩ := Option.map_eq_some_iff.1 h
    obtain ⟨rfl, rfl⟩ := Prod.mk.inj he
    exact r_move (.inl ho) hd hv k
  · obtain ⟨v', hv, he⟩ := Option.map_eq_some_iff.1 h
    obtain ⟨rfl, rfl⟩ := Prod.mk.inj he
    exact r_move (.inr ho) hd hv k
  · split at h
    · rename_i hc
      obtain ⟨v', hv, he⟩ := Option.map_eq_some_iff.1 h
      obtain ⟨rfl, rfl⟩ := Prod.mk.inj he
      exact r_pick ho hd hc (by simpa using hv) k
    · rename_i hc
      obtain ⟨v', hv, he⟩ := Option.map_eq_some_iff.1 h
      obtain ⟨rfl, rfl⟩ := Prod.mk.inj he
      exact r_pick ho hd hc (by simpa using hv) k
    · cases h
  · split at h
    · rename_i a b hx hy
      split at h
      · rename_i i ht
        split at h
        · rename_i hk
          obtain ⟨rfl, rfl⟩ := Prod.mk.inj (Option.some.inj h)
          exact r_binb hT ho hd ht hk hx hy (.inl ⟨rfl, rfl⟩) k
        · rename_i hk
          obtain ⟨rfl, rfl⟩ := Prod.mk.inj (Option.some.inj h)
          exact r_binb hT ho hd ht hk hx hy (.inr ⟨rfl, rfl⟩) k
        · cases h
      · cases h
    · rename_i u w _ hx hy
      obtain ⟨q, hq, he⟩ := Option.map_eq_some_iff.1 h
      obtain ⟨rfl, rfl⟩ := Prod.mk.inj he
      exact r_bin ho hd hx hy hq hp k
    · cases h
  · split at h
    · rename_i hx
      obtain ⟨rfl, rfl⟩ := Prod.mk.inj (Option.some.inj h)
      exact r_not ho hd hx k
    · cases h
  · split at h
    · rename_i hx
      obtain ⟨rfl, rfl⟩ := Prod.mk.inj (Option.some.inj h)
      exact r_neg ho hd hx k
    · cases h
  · split at h
    · rename_i i i' kk n ht ht' hx
      split at h
      · rename_i k1 k2 hk hk'
        split at h
        · rename_i hkk
          subst hkk
          obtain ⟨rfl, rfl⟩ := Prod.mk.inj (Option.some.inj h)
          exact r_conv hT ho hd ht hk ht' hk' hx k
        · cases h
      · cases h
    · rename_i i i' c _ ht ht' hx
      split at h
      · rename_i e rows hk hk' hc
        split at h
        · rename_i ie he
          split at h
          · rename_i ns hke hb
            obtain ⟨rfl, rfl⟩ := Prod.mk.inj (Option.some.inj h)
            exact r_bts hT ho hd ht hk he hke ht' hk' hx hc hb k
          · cases h
        · cases h
      · cases h
    · cases h
  · split at h
    · rename_i c hx
      split at h
      · rename_i hc
        obtain ⟨rfl, rfl⟩ := Prod.mk.inj (Option.some.inj h)
        exact r_nilCheck ho hd hx hc k
      · cases h
    · cases h
  · split at h
    · rename_i vs hx
      split at h
      · rename_i c hi
        obtain ⟨rfl, rfl⟩ := Prod.mk.inj (Option.some.inj h)
        exact r_extract ho hd hx hi (fun l hl => by cases hl) k
      · rename_i cs hi
        obtain ⟨rfl, rfl⟩ := Prod.mk.inj (Option.some.inj h)
        exact r_extract ho hd hx hi (fun l hl => by cases hl) k
      · cases h
    · cases h
  · split at h
    · rename_i i c ht hx
      split at h
      · rename_i l hk
        split at h
        · rename_i off ft hf hc
          obtain ⟨rfl, rfl⟩ := Prod.mk.inj (Option.some.inj h)
          exact r_fieldAddr hT ho hd ht hk hf hx hc k
        · cases h
      · cases h
    · cases h
  · split at h
    · rename_i i cs ht hx
      split at h
      · rename_i l hk
        split at h
        · rename_i off ft hf
          split at h
          · rename_i fi hft
            split at h
            · rename_i hfk
              obtain ⟨rfl, rfl⟩ := Prod.mk.inj (Option.some.inj h)
              exact r_fieldS hT ho hd ht hk hf hft hfk hx hp k
            · cases h
            · cases h
            · rename_i h1 h2 h3
              split at h
              · rename_i c hc
                obtain ⟨rfl, rfl⟩ := Prod.mk.inj (Option.some.inj h)
                refine r_field hT ho hd ht hk hf hft ?_ hx hc k
                cases hfk : fi.k <;> first | rfl | (exact absurd hfk (h2 _ _)) | (exact absurd hfk (h1 _)) | (exact absurd hfk h3)
              · cases h
          · cases h
        · cases h
      · cases h
    · cases h
  · split at h
    · rename_i i c ht hx
      split at h
      · rename_i cs hcs
        split at h
        · rename_i hk
          obtain ⟨rfl, rfl⟩ := Prod.mk.inj (Option.some.inj h)
          exact r_load hT ho hd ht (by rw [hk]) hx hcs hp k
        · rename_i hk
          obtain ⟨rfl, rfl⟩ := Prod.mk.inj (Option.some.inj h)
          exact r_load hT ho hd ht (by rw [hk]) hx hcs hp k
        · cases h
        · rename_i h1 h2 h3
          obtain ⟨rfl, rfl⟩ := Prod.mk.inj (Option.some.inj h)
          refine r_load1 hT ho hd ht ?_ hx hcs hp k
          cases hk : i.k <;> first | rfl | (exact absurd hk (h2 _ _)) | (exact absurd hk (h1 _)) | (exact absurd hk h3)
      · cases h
    · cases h
  · rename_i c
    obtain ⟨cal, args, ats⟩ := c
    simp only at h
    split at h
    · unfold stepLen at h
      split at h
      · rename_i x t hargs hats
        obtain rfl : args = #[x] := by cases args; simpa using hargs
        obtain rfl : ats = #[t] := by cases ats; simpa using hats
        split at h
        · rename_i i v' ht hx
          split at h
          · rename_i e hk
            split at h
            · rename_i id f l
              split at h
              · rename_i rows hlk
                obtain ⟨rfl, rfl⟩ := Prod.mk.inj (Option.some.inj h)
                exact r_len hT ho hd ht hk hx rfl (fun id' f' l' he => by cases he; exact ⟨_, hlk⟩) k
              · cases h
            · rename_i hne
              obtain ⟨n, hn, he⟩ := Option.map_eq_some_iff.1 h
              obtain ⟨rfl, rfl⟩ := Prod.mk.inj he
              exact r_len hT ho hd ht hk hx hn (fun id' f' l' he => absurd he (hne id' f' l')) k
          · rename_i hk
            split at h
            · obtain ⟨rfl, rfl⟩ := Prod.mk.inj (Option.some.inj h)
              exact r_lenstr hT ho hd ht hk hx k
            · cases h
          · cases h
        · cases h
      · cases h
    · unfold stepMin at h
      split at h
      · rename_i x y hargs
        obtain rfl : args = #[x, y] := by cases args; simpa using hargs
        split at h
        · rename_i k1 a k2 b hx hy
          obtain ⟨rfl, rfl⟩ := Prod.mk.inj (Option.some.inj h)
          exact r_min ho hd hx hy k
        · cases h
      · cases h
    · cases h
  · cases h

end Mg

/- The abstract state logic, part 21: == of structs. No condition. -/
namespace Mg
open Go Go.RowKit
set_option linter.unusedVariables false

variable {P : Program} {T : Tab}

/-- A check that the kernel reckons. -/
structure Chk (b : Bool) : Prop where
  h : b = true

def eqOk (P : Program) : Nat → Nat → Bool
  | 0, _ => false
  | n + 1, t => match P.underlying t with
    | some .bool => true
    | some (.int _) => true
    | some (.struct fs) => !P.stoodInHeld t && fs.toList.all fun f => (f.name != "_") && eqOk P n f.type
    | _ => false

def eqFs (T : Tab) (E : Nat → List MC → List MC → Option Bool) : List (Nat × Nat) → List MC → List MC → Option Bool
  | [], _, _ => some true
  | (off, t) :: l, xs, ys => match T t with
    | some i => match E t ((xs.drop off).take i.size) ((ys.drop off).take i.size), eqFs T E l xs ys with
      | some a, some b => some (a && b)
      | _, _ => none
    | none => none
def eqT (T : Tab) : Nat → Nat → List MC → List MC → Option Bool
  | 0, _, _, _ => none
  | n + 1, t, xs, ys => match T t with
    | some i => match i.k with
      | .bool => match xs, ys with
        | [.sc (.bool a)], [.sc (.bool b)] => some (a == b)
        | _, _ => none
      | .int _ => match xs, ys with
        | [.sc (.int k a)], [.sc (.int k' b)] => if k = k' then some (a == b) else none
        | _, _ => none
      | .struct l => if xs.length = i.size ∧ ys.length = i.size then eqFs T (eqT T n) l xs ys else none
      | _ => none
    | none => none

def AR (A : Array Value) (cs : List MC) : Prop := A.size = cs.length ∧ ∀ (j : Nat) (v : Value), cs[j]? = some (.sc v) → A[j]? = some v
def VR (T : Tab) (t : Nat) (cs : List MC) (v : Value) : Prop := match (T t).map TI.k with
  | some (TK.struct _) => ∃ A, v = .agg A ∧ AR A cs
  | _ => ∃ u, cs = [.sc u] ∧ v = u

theorem part_ok (hT : TOk P T) {t : Nat} {i : TI} (ht : T t = some i) {A : Array Value} {cs : List MC} (h : AR A cs) {off : Nat} {w : World}
    (hk : (∃ l, i.k = .struct l ∧ ((cs.drop off).take i.size).length = i.size) ∨ (i.k.agg = false ∧ ∃ u, (cs.drop off).take i.size = [.sc u])) :
    ∃ v, (part t A off).run P w = .ok v w ∧ VR T t ((cs.drop off).take i.size) v := by
  obtain ⟨h1, h2⟩ := h
  rcases hk with ⟨l, hk, hlen⟩ | ⟨hk, u, hu⟩
  · obtain ⟨fs, hus, _⟩ := hT.und_struct ht hk
    refine ⟨.agg (A.extract off (off + i.size)), ?_, ?_⟩
    · have hag : (isAgg t).run P w = .ok true w := by
        unfold Go.isAgg
        simp only [Sem.run_bind, run_underlying hus w, Result.andThen_ok]
        rfl
      unfold part
      simp only [Sem.run_bind, hag, Result.andThen_ok, if_true, hT.size ht w, Sem.run_pure]
    · simp only [VR, ht, Option.map_some, hk]
      refine ⟨_, rfl, ?_, fun j v hj => ?_⟩
      · simp only [List.length_take, List.length_drop] at hlen ⊢
        simp only [Array.size_extract]
        omega
      · rw [List.getElem?_take] at hj
        split at hj
        · rename_i hlt
          rw [List.getElem?_drop] at hj
          rw [Array.getElem?_extract]
          have := h2 _ v hj
          have hlt2 : off + j < A.size := (Array.getElem?_eq_some_iff.1 this).1
          rw [if_pos (by omega)]
          exact this
        · cases hj
  · have hone : i.k ≠ .other := fun e => by rw [e] at hk; cases hk
    have h0 : cs[off]? = some (.sc u) := by
      have : ((cs.drop off).take i.size)[0]? = some (.sc u) := by rw [hu]; rfl
      rw [List.getElem?_take] at this
      split at this
      · rwa [List.getElem?_drop, Nat.add_zero] at this
      · cases this
    refine ⟨u, ?_, ?_⟩
    · unfold part
      simp only [Sem.run_bind, hT.isAgg ht hk w, Result.andThen_ok, Bool.false_eq_true, if_false, h2 _ _ h0, Sem.run_pure]
    · unfold VR
      cases hik : i.k <;> simp [ht, hik, hu] <;>
      (rw [hik] at hk; cases hk)

theorem eqT_agg {n t : Nat} {xs ys : List MC} {b : Bool} {i : TI} (ht : T t = some i) (h : eqT T n t xs ys = some b) :
    (∃ l, i.k = .struct l ∧ xs.length = i.size ∧ ys.length = i.size) ∨ (i.k.agg = false ∧ (∃ u, xs = [.sc u]) ∧ ∃ u, ys = [.sc u]) := by
  cases n with
  | zero => cases h
  | succ n =>
    simp only [eqT, ht] at h
    cases hk : i.k <;> rw [hk] at h <;> simp only at h
    case bool =>
      split at h
      · exact .inr ⟨rfl, ⟨_, rfl⟩, _, rfl⟩
      · cases h
    case int =>
      split at h
      · exact .inr ⟨rfl, ⟨_, rfl⟩, _, rfl⟩
      · cases h
    case struct l =>
      split at h
      · rename_i hl; exact .inl ⟨l, rfl, hl.1, hl.2⟩
      · cases h
    all_goals cases h

theorem eqFs_ok (hT : TOk P T) {n d : Nat} {w : World} (ih : ∀ t xs ys b x y, eqT T n t xs ys = some b → eqOk P n t = true → VR T t xs x → VR T t ys y → (Op.equalIn d t x y).run P w = .ok b w)
    {A B : Array Value} {xs ys : List MC} (hA : AR A xs) (hB : AR B ys) : ∀ (fs : List Field) (b : Bool), (fs.all fun f => (f.name != "_") && eqOk P n f.type) = true → eqFs T (eqT T n) (fs.map fun f => (f.offset, f.type)) xs ys = some b →
      (Op.eqFields d A B fs).run P w = .ok b w
  | [], b, _, h => by
    obtain rfl : true = b := by simpa [eqFs] using h
    simp [Op.eqFields]
  | f :: fs, b, hf, h => by
    simp only [List.all_cons, Bool.and_eq_true, bne_iff_ne, ne_eq] at hf
    simp only [List.map_cons, eqFs] at h
    cases ht : T f.type with
    | none => rw [ht] at h; cases h
    | some i =>
      rw [ht] at h
      simp only at h
      split at h
      · rename_i p q hp hq
        obtain rfl : (p && q) = b := by simpa using h
        obtain ⟨x, hx, hvx⟩ := part_ok (w := w) hT ht hA (off := f.offset) (by
          rcases eqT_agg ht hp with ⟨l, h1, h2, h3⟩ | ⟨h1, h2, h3⟩
          · exact .inl ⟨l, h1, h2⟩
          · exact .inr ⟨h1, h2⟩)
        obtain ⟨y, hy, hvy⟩ := part_ok (w := w) hT ht hB (off := f.offset) (by
          rcases eqT_agg ht hp with ⟨l, h1, h2, h3⟩ | ⟨h1, h2, h3⟩
          · exact .inl ⟨l, h1, h3⟩
          · exact .inr ⟨h1, h3⟩)
        have he := ih _ _ _ _ _ _ hp hf.1.2 hvx hvy
        rw [Op.eqFields]
        rw [if_pos hf.1.1]
        simp only [Sem.run_bind, hx, hy, he, Result.andThen_ok]
        cases p
        · simp
        · simp only [Bool.not_true, Bool.false_eq_true, if_false, Bool.true_and]
          exact eqFs_ok hT ih hA hB fs q (by simpa using hf.2) hq
      · cases h

theorem eqT_ok (hT : TOk P T) {w : World} : ∀ (n d t : Nat) (xs ys : List MC) (b : Bool) (x y : Value), eqT T n t xs ys = some b → eqOk P n t = true → VR T t xs x → VR T t ys y → (Op.equalIn (d + n) t x y).run P w = .ok b w
  | 0, d, t, xs, ys, b, x, y, h, _, _, _ => by cases h
  | n + 1, d, t, xs, ys, b, x, y, h, ho, hx, hy => by
    simp only [eqT] at h
    cases ht : T t with
    | none => rw [ht] at h; cases h
    | some i =>
      rw [ht] at h
      simp only at h
      simp only [VR, ht, Option.map_some] at hx hy
      cases hk : i.k <;> rw [hk] at h hx hy <;> simp only at h hx hy
      case bool =>
        obtain ⟨u, rfl, rfl⟩ := hx
        obtain ⟨v, rfl, rfl⟩ := hy
        split at h
        · rename_i e1 e2
          simp only [List.cons.injEq, MC.sc.injEq, and_true] at e1 e2
          subst e1 e2
          obtain rfl := Option.some.inj h
          exact run_equalIn_bool' w (d + n) t _ _ (hT.und_bool ht hk)
        · cases h
      case int k =>
        obtain ⟨u, rfl, rfl⟩ := hx
        obtain ⟨v, rfl, rfl⟩ := hy
        split at h
        · rename_i e1 e2
          simp only [List.cons.injEq, MC.sc.injEq, and_true] at e1 e2
          subst e1 e2
          split at h
          · rename_i ek
            subst ek
            obtain rfl := Option.some.inj h
            exact run_equalIn_int w (d + n) t _ _ _ _ (hT.und_int ht hk)
          · cases h
        · cases h
      case struct l =>
        split at h
        · obtain ⟨A, rfl, hA⟩ := hx
          obtain ⟨B, rfl, hB⟩ := hy
          obtain ⟨fs, hus, hfs, _⟩ := hT.und_struct ht hk
          simp only [eqOk, hus, Bool.and_eq_true, Bool.not_eq_true'] at ho
          have hf : P.fieldsOf t = fs := by simp [Program.fieldsOf, hus]
          have := run_equalIn_struct (P := P) w (d + n) t A B (by rw [hf]; exact hus) ho.1
          rw [show d + (n + 1) = d + n + 1 from rfl, this, hf]
          rw [← hfs] at h
          exact eqFs_ok hT (fun t xs ys b x y h1 h2 h3 h4 => eqT_ok hT n d t xs ys b x y h1 h2 h3 h4) hA hB fs.toList b ho.2 h
        · cases h
      all_goals cases h

variable {o : Oper} {s : S} {K : S → Prop}

theorem r_eqs {op : BinOp} {t yt : TypeId} {x y : Operand} {xs ys : List MC} {b r : Bool} {i : TI} {l : List (Nat × Nat)} (hT : TOk P T) (ho : o.op = .binOp op t x y yt) (hd : Oper.dok o s.m = true)
    (ht : T t = some i) (hk : i.k = .struct l) (hx : evO s x = some (.agg xs)) (hy : evO s y = some (.agg ys)) (hb : eqT T 8 t xs ys = some b)
    (hc : (eqOk P 8 t && !P.eqGuardType P.depth t) = true) (hr : (op = .eql ∧ r = b) ∨ (op = .neq ∧ r = !b))
    (k : K (s.put o.dst (.one (.sc (.bool r))))) : OpOK P o s K :=
  OpOK.val (Oper.dok_spec hd) (fun w0 wr A L F a w h => by
    obtain ⟨h1, _⟩ := evO_ok h hx
    obtain ⟨h2, _⟩ := evO_ok h hy
    obtain ⟨X, hX, hxs, hxc⟩ := h1
    obtain ⟨Y, hY, hys, hyc⟩ := h2
    simp only [Bool.and_eq_true, Bool.not_eq_true'] at hc
    have hv : ∀ {cs : List MC} {A : Array Value}, A.size = cs.length → (∀ (j : Nat) (c : MC), cs[j]? = some c → ∃ u : Value, A[j]? = some u ∧ RC (look s.st) L w F c u) → VR T t cs (.agg A) := fun h1 h2 => by
      simp only [VR, ht, Option.map_some, hk]
      exact ⟨_, rfl, h1, fun j v hj => by
        obtain ⟨u, hu, hr⟩ := h2 j _ hj
        obtain ⟨rfl, _⟩ := hr
        exact hu⟩
    have he := eqT_ok (w := w) hT 8 9992 t xs ys b _ _ hb hc.1 (hv hxs hxc) (hv hys hyc)
    refine ⟨.bool r, ?_, ⟨rfl, rfl⟩, trivial⟩
    have hg := fun op => run_eqGuard_agg (P := P) w op t x y X Y hc.2
    rcases hr with ⟨rfl, rfl⟩ | ⟨rfl, rfl⟩
    · simp only [execOp, ho, hX, hY]
      rw [Sem.run_bind, Sem.run_bind, hg]
      simp only [Result.andThen_ok, run_eql_struct, he, Sem.run_pure]
    · simp only [execOp, ho, hX, hY]
      rw [Sem.run_bind, Sem.run_bind, hg]
      simp only [Result.andThen_ok, run_neq_struct, he, Sem.run_pure]) k

end Mg
