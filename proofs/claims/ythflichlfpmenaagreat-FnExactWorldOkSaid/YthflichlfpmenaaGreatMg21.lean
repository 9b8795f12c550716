/- The abstract state logic, part 21: == of structs. No condition. -/
import Derived.Test.YthflichlfpmenaaGreatMg10
import Derived.Laws.StructEq
namespace Mg
open Go Go.RowKit
set_option linter.unusedVariables false

variable {P : Program} {T : Tab}

/-- A check that the kernel reckons. -/
structure Chk (b : Bool) : Prop where
  h : b = true

def eqOk (P : Program) : Nat → Nat → Bool
  | 0, _ => false
  | n + 1, t => match P.underlying t with
    | some .bool => true
    | some (.int _) => true
    | some (.struct fs) => !P.stoodInHeld t && fs.toList.all fun f => (f.name != "_") && eqOk P n f.type
    | _ => false

def eqFs (T : Tab) (E : Nat → List MC → List MC → Option Bool) : List (Nat × Nat) → List MC → List MC → Option Bool
  | [], _, _ => some true
  | (off, t) :: l, xs, ys => match T t with
    | some i => match E t ((xs.drop off).take i.size) ((ys.drop off).take i.size), eqFs T E l xs ys with
      | some a, some b => some (a && b)
      | _, _ => none
    | none => none
def eqT (T : Tab) : Nat → Nat → List MC → List MC → Option Bool
  | 0, _, _, _ => none
  | n + 1, t, xs, ys => match T t with
    | some i => match i.k with
      | .bool => match xs, ys with
        | [.sc (.bool a)], [.sc (.bool b)] => some (a == b)
        | _, _ => none
      | .int _ => match xs, ys with
        | [.sc (.int k a)], [.sc (.int k' b)] => if k = k' then some (a == b) else none
        | _, _ => none
      | .struct l => if xs.length = i.size ∧ ys.length = i.size then eqFs T (eqT T n) l xs ys else none
      | _ => none
    | none => none

def AR (A : Array Value) (cs : List MC) : Prop := A.size = cs.length ∧ ∀ (j : Nat) (v : Value), cs[j]? = some (.sc v) → A[j]? = some v
def VR (T : Tab) (t : Nat) (cs : List MC) (v : Value) : Prop := match (T t).map TI.k with
  | some (TK.struct _) => ∃ A, v = .agg A ∧ AR A cs
  | _ => ∃ u, cs = [.sc u] ∧ v = u

theorem part_ok (hT : TOk P T) {t : Nat} {i : TI} (ht : T t = some i) {A : Array Value} {cs : List MC} (h : AR A cs) {off : Nat} {w : World}
    (hk : (∃ l, i.k = .struct l ∧ ((cs.drop off).take i.size).length = i.size) ∨ (i.k.agg = false ∧ ∃ u, (cs.drop off).take i.size = [.sc u])) :
    ∃ v, (part t A off).run P w = .ok v w ∧ VR T t ((cs.drop off).take i.size) v := by
  obtain ⟨h1, h2⟩ := h
  rcases hk with ⟨l, hk, hlen⟩ | ⟨hk, u, hu⟩
  · obtain ⟨fs, hus, _⟩ := hT.und_struct ht hk
    refine ⟨.agg (A.extract off (off + i.size)), ?_, ?_⟩
    · have hag : (isAgg t).run P w = .ok true w := by
        unfold Go.isAgg
        simp only [Sem.run_bind, run_underlying hus w, Result.andThen_ok]
        rfl
      unfold part
      simp only [Sem.run_bind, hag, Result.andThen_ok, if_true, hT.size ht w, Sem.run_pure]
    · simp only [VR, ht, Option.map_some, hk]
      refine ⟨_, rfl, ?_, fun j v hj => ?_⟩
      · simp only [List.length_take, List.length_drop] at hlen ⊢
        simp only [Array.size_extract]
        omega
      · rw [List.getElem?_take] at hj
        split at hj
        · rename_i hlt
          rw [List.getElem?_drop] at hj
          rw [Array.getElem?_extract]
          have := h2 _ v hj
          have hlt2 : off + j < A.size := (Array.getElem?_eq_some_iff.1 this).1
          rw [if_pos (by omega)]
          exact this
        · cases hj
  · have hone : i.k ≠ .other := fun e => by rw [e] at hk; cases hk
    have h0 : cs[off]? = some (.sc u) := by
      have : ((cs.drop off).take i.size)[0]? = some (.sc u) := by rw [hu]; rfl
      rw [List.getElem?_take] at this
      split at this
      · rwa [List.getElem?_drop, Nat.add_zero] at this
      · cases this
    refine ⟨u, ?_, ?_⟩
    · unfold part
      simp only [Sem.run_bind, hT.isAgg ht hk w, Result.andThen_ok, Bool.false_eq_true, if_false, h2 _ _ h0, Sem.run_pure]
    · unfold VR
      cases hik : i.k <;> simp [ht, hik, hu] <;>
      (rw [hik] at hk; cases hk)

theorem eqT_agg {n t : Nat} {xs ys : List MC} {b : Bool} {i : TI} (ht : T t = some i) (h : eqT T n t xs ys = some b) :
    (∃ l, i.k = .struct l ∧ xs.length = i.size ∧ ys.length = i.size) ∨ (i.k.agg = false ∧ (∃ u, xs = [.sc u]) ∧ ∃ u, ys = [.sc u]) := by
  cases n with
  | zero => cases h
  | succ n =>
    simp only [eqT, ht] at h
    cases hk : i.k <;> rw [hk] at h <;> simp only at h
    case bool =>
      split at h
      · exact .inr ⟨rfl, ⟨_, rfl⟩, _, rfl⟩
      · cases h
    case int =>
      split at h
      · exact .inr ⟨rfl, ⟨_, rfl⟩, _, rfl⟩
      · cases h
    case struct l =>
      split at h
      · rename_i hl; exact .inl ⟨l, rfl, hl.1, hl.2⟩
      · cases h
    all_goals cases h

theorem eqFs_ok (hT : TOk P T) {n d : Nat} {w : World} (ih : ∀ t xs ys b x y, eqT T n t xs ys = some b → eqOk P n t = true → VR T t xs x → VR T t ys y → (Op.equalIn d t x y).run P w = .ok b w)
    {A B : Array Value} {xs ys : List MC} (hA : AR A xs) (hB : AR B ys) : ∀ (fs : List Field) (b : Bool), (fs.all fun f => (f.name != "_") && eqOk P n f.type) = true → eqFs T (eqT T n) (fs.map fun f => (f.offset, f.type)) xs ys = some b →
      (Op.eqFields d A B fs).run P w = .ok b w
  | [], b, _, h => by
    obtain rfl : true = b := by simpa [eqFs] using h
    simp [Op.eqFields]
  | f :: fs, b, hf, h => by
    simp only [List.all_cons, Bool.and_eq_true, bne_iff_ne, ne_eq] at hf
    simp only [List.map_cons, eqFs] at h
    cases ht : T f.type with
    | none => rw [ht] at h; cases h
    | some i =>
      rw [ht] at h
      simp only at h
      split at h
      · rename_i p q hp hq
        obtain rfl : (p && q) = b := by simpa using h
        obtain ⟨x, hx, hvx⟩ := part_ok (w := w) hT ht hA (off := f.offset) (by
          rcases eqT_agg ht hp with ⟨l, h1, h2, h3⟩ | ⟨h1, h2, h3⟩
          · exact .inl ⟨l, h1, h2⟩
          · exact .inr ⟨h1, h2⟩)
        obtain ⟨y, hy, hvy⟩ := part_ok (w := w) hT ht hB (off := f.offset) (by
          rcases eqT_agg ht hp with ⟨l, h1, h2, h3⟩ | ⟨h1, h2, h3⟩
          · exact .inl ⟨l, h1, h3⟩
          · exact .inr ⟨h1, h3⟩)
        have he := ih _ _ _ _ _ _ hp hf.1.2 hvx hvy
        rw [Op.eqFields]
        rw [if_pos hf.1.1]
        simp only [Sem.run_bind, hx, hy, he, Result.andThen_ok]
        cases p
        · simp
        · simp only [Bool.not_true, Bool.false_eq_true, if_false, Bool.true_and]
          exact eqFs_ok hT ih hA hB fs q (by simpa using hf.2) hq
      · cases h

theorem eqT_ok (hT : TOk P T) {w : World} : ∀ (n d t : Nat) (xs ys : List MC) (b : Bool) (x y : Value), eqT T n t xs ys = some b → eqOk P n t = true → VR T t xs x → VR T t ys y → (Op.equalIn (d + n) t x y).run P w = .ok b w
  | 0, d, t, xs, ys, b, x, y, h, _, _, _ => by cases h
  | n + 1, d, t, xs, ys, b, x, y, h, ho, hx, hy => by
    simp only [eqT] at h
    cases ht : T t with
    | none => rw [ht] at h; cases h
    | some i =>
      rw [ht] at h
      simp only at h
      simp only [VR, ht, Option.map_some] at hx hy
      cases hk : i.k <;> rw [hk] at h hx hy <;> simp only at h hx hy
      case bool =>
        obtain ⟨u, rfl, rfl⟩ := hx
        obtain ⟨v, rfl, rfl⟩ := hy
        split at h
        · rename_i e1 e2
          simp only [List.cons.injEq, MC.sc.injEq, and_true] at e1 e2
          subst e1 e2
          obtain rfl := Option.some.inj h
          exact run_equalIn_bool' w (d + n) t _ _ (hT.und_bool ht hk)
        · cases h
      case int k =>
        obtain ⟨u, rfl, rfl⟩ := hx
        obtain ⟨v, rfl, rfl⟩ := hy
        split at h
        · rename_i e1 e2
          simp only [List.cons.injEq, MC.sc.injEq, and_true] at e1 e2
          subst e1 e2
          split at h
          · rename_i ek
            subst ek
            obtain rfl := Option.some.inj h
            exact run_equalIn_int w (d + n) t _ _ _ _ (hT.und_int ht hk)
          · cases h
        · cases h
      case struct l =>
        split at h
        · obtain ⟨A, rfl, hA⟩ := hx
          obtain ⟨B, rfl, hB⟩ := hy
          obtain ⟨fs, hus, hfs, _⟩ := hT.und_struct ht hk
          simp only [eqOk, hus, Bool.and_eq_true, Bool.not_eq_true'] at ho
          have hf : P.fieldsOf t = fs := by simp [Program.fieldsOf, hus]
          have := run_equalIn_struct (P := P) w (d + n) t A B (by rw [hf]; exact hus) ho.1
          rw [show d + (n + 1) = d + n + 1 from rfl, this, hf]
          rw [← hfs] at h
          exact eqFs_ok hT (fun t xs ys b x y h1 h2 h3 h4 => eqT_ok hT n d t xs ys b x y h1 h2 h3 h4) hA hB fs.toList b ho.2 h
        · cases h
      all_goals cases h

variable {o : Oper} {s : S} {K : S → Prop}

theorem r_eqs {op : BinOp} {t yt : TypeId} {x y : Operand} {xs ys : List MC} {b r : Bool} {i : TI} {l : List (Nat × Nat)} (hT : TOk P T) (ho : o.op = .binOp op t x y yt) (hd : Oper.dok o s.m = true)
    (ht : T t = some i) (hk : i.k = .struct l) (hx : evO s x = some (.agg xs)) (hy : evO s y = some (.agg ys)) (hb : eqT T 8 t xs ys = some b)
    (hc : (eqOk P 8 t && !P.eqGuardType P.depth t) = true) (hr : (op = .eql ∧ r = b) ∨ (op = .neq ∧ r = !b))
    (k : K (s.put o.dst (.one (.sc (.bool r))))) : OpOK P o s K :=
  OpOK.val (Oper.dok_spec hd) (fun w0 wr A L F a w h => by
    obtain ⟨h1, _⟩ := evO_ok h hx
    obtain ⟨h2, _⟩ := evO_ok h hy
    obtain ⟨X, hX, hxs, hxc⟩ := h1
    obtain ⟨Y, hY, hys, hyc⟩ := h2
    simp only [Bool.and_eq_true, Bool.not_eq_true'] at hc
    have hv : ∀ {cs : List MC} {A : Array Value}, A.size = cs.length → (∀ (j : Nat) (c : MC), cs[j]? = some c → ∃ u : Value, A[j]? = some u ∧ RC (look s.st) L w F c u) → VR T t cs (.agg A) := fun h1 h2 => by
      simp only [VR, ht, Option.map_some, hk]
      exact ⟨_, rfl, h1, fun j v hj => by
        obtain ⟨u, hu, hr⟩ := h2 j _ hj
        obtain ⟨rfl, _⟩ := hr
        exact hu⟩
    have he := eqT_ok (w := w) hT 8 9992 t xs ys b _ _ hb hc.1 (hv hxs hxc) (hv hys hyc)
    refine ⟨.bool r, ?_, ⟨rfl, rfl⟩, trivial⟩
    have hg := fun op => run_eqGuard_agg (P := P) w op t x y X Y hc.2
    rcases hr with ⟨rfl, rfl⟩ | ⟨rfl, rfl⟩
    · simp only [execOp, ho, hX, hY]
      rw [Sem.run_bind, Sem.run_bind, hg]
      simp only [Result.andThen_ok, run_eql_struct, he, Sem.run_pure]
    · simp only [execOp, ho, hX, hY]
      rw [Sem.run_bind, Sem.run_bind, hg]
      simp only [Result.andThen_ok, run_neq_struct, he, Sem.run_pure]) k

end Mg
