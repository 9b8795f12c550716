/- The abstract state logic, part 4: operations that only compute and read. No condition. -/
import Derived.Test.YthflichlfpmenaaGreatMg3
namespace Mg
open Go Go.RowKit

inductive TK where
  | int (k : IntKind) | bool | str | slice (e : Nat) | arr (n e : Nat) | struct (fs : List (Nat × Nat)) | ptr | other
inductive ZC where
  | int (k : IntKind) | bool | str | nil | ptr
/-- A type: cells, bytes, kind, its zero's cells. -/
structure TI where
  size : Nat
  bytes : Nat
  k : TK
  z : List ZC
abbrev Tab := Nat → Option TI

def ZC.mc : ZC → MC
  | .int k => .sc (.int k 0)
  | .bool => .sc (.bool false)
  | .str => .sc (.string ⟨#[]⟩)
  | .nil => .nil
  | .ptr => .sc (.pointer none)
def ZC.ok : ZC → Value → Bool
  | .int k, .int k' n => k == k' && n == 0
  | .bool, .bool b => !b
  | .str, .string s => s.size == 0
  | .nil, .slice _ l c => l == 0 && c == 0
  | .ptr, .pointer none => true
  | _, _ => false
def zcells : List ZC → List Value → Bool
  | [], [] => true
  | z :: zs, v :: vs => z.ok v && zcells zs vs
  | _, _ => false
def TK.ok (P : Program) : TK → Option TypeDesc → Bool
  | .int k, some (.int k') => k == k'
  | .bool, some .bool => true
  | .str, some .string => true
  | .slice e, some (.slice e') => e == e'
  | .arr n e, some (.array n' e') => n == n' && e == e'
  | .struct l, some (.struct fs) => fs.toList.map (fun f => (f.offset, f.type)) == l && fs.toList.all (fun f => P.cellsOf f.type != 0)
  | .ptr, some (.pointer _) => true
  | .other, some _ => true
  | _, _ => false
def TI.ok (P : Program) (t : Nat) (i : TI) : Bool :=
  match P.info? t with
  | some f => f.size == i.size && f.bytes == i.bytes && i.k.ok P (P.underlying t) && i.z.length == i.size && (match f.zero with | some z => zcells i.z z.cells.toList | none => false)
  | none => false
def TOk (P : Program) (T : Tab) : Prop := ∀ t i, T t = some i → i.ok P t = true

theorem TOk.info {P : Program} {T : Tab} (h : TOk P T) {t : Nat} {i : TI} (ht : T t = some i) :
    ∃ f, P.info? t = some f ∧ f.size = i.size ∧ f.bytes = i.bytes ∧ i.k.ok P (P.underlying t) = true ∧ ∃ z, f.zero = some z ∧ zcells i.z z.cells.toList = true ∧ i.z.length = i.size := by
  have h := h t i ht
  unfold TI.ok at h
  split at h
  · rename_i f hf
    simp only [Bool.and_eq_true, beq_iff_eq] at h
    obtain ⟨⟨⟨⟨h1, h2⟩, h3⟩, h5⟩, h4⟩ := h
    refine ⟨f, hf, h1, h2, h3, ?_⟩
    split at h4
    · rename_i z hz; exact ⟨z, hz, h4, h5⟩
    · cases h4
  · cases h

theorem TOk.size {P : Program} {T : Tab} (h : TOk P T) {t : Nat} {i : TI} (ht : T t = some i) (w : World) : (Go.sizeOf t).run P w = Result.ok i.size w := by
  obtain ⟨f, hf, h1, _⟩ := h.info ht
  simp [Go.sizeOf, typeInfo, hf, h1]

theorem TOk.und_slice {P : Program} {T : Tab} (h : TOk P T) {t e : Nat} {i : TI} (ht : T t = some i) (hk : i.k = .slice e) : P.underlying t = some (.slice e) := by
  obtain ⟨f, _, _, _, h3, _⟩ := h.info ht
  rw [hk] at h3
  cases hu : P.underlying t with
  | none => rw [hu] at h3; cases h3
  | some d => rw [hu] at h3; cases d <;> simp [TK.ok] at h3; subst h3; rfl
theorem TOk.und_arr {P : Program} {T : Tab} (h : TOk P T) {t n e : Nat} {i : TI} (ht : T t = some i) (hk : i.k = .arr n e) : P.underlying t = some (.array n e) := by
  obtain ⟨f, _, _, _, h3, _⟩ := h.info ht
  rw [hk] at h3
  cases hu : P.underlying t with
  | none => rw [hu] at h3; cases h3
  | some d => rw [hu] at h3; cases d <;> simp [TK.ok] at h3; obtain ⟨rfl, rfl⟩ := h3; rfl
theorem TOk.und_int {P : Program} {T : Tab} (h : TOk P T) {t : Nat} {k : IntKind} {i : TI} (ht : T t = some i) (hk : i.k = .int k) : P.underlying t = some (.int k) := by
  obtain ⟨f, _, _, _, h3, _⟩ := h.info ht
  rw [hk] at h3
  cases hu : P.underlying t with
  | none => rw [hu] at h3; cases h3
  | some d => rw [hu] at h3; cases d <;> simp [TK.ok] at h3; subst h3; rfl
theorem TOk.und_bool {P : Program} {T : Tab} (h : TOk P T) {t : Nat} {i : TI} (ht : T t = some i) (hk : i.k = .bool) : P.underlying t = some .bool := by
  obtain ⟨f, _, _, _, h3, _⟩ := h.info ht
  rw [hk] at h3
  cases hu : P.underlying t with
  | none => rw [hu] at h3; cases h3
  | some d => rw [hu] at h3; cases d <;> simp [TK.ok] at h3; rfl
theorem TOk.und_str {P : Program} {T : Tab} (h : TOk P T) {t : Nat} {i : TI} (ht : T t = some i) (hk : i.k = .str) : P.underlying t = some .string := by
  obtain ⟨f, _, _, _, h3, _⟩ := h.info ht
  rw [hk] at h3
  cases hu : P.underlying t with
  | none => rw [hu] at h3; cases h3
  | some d => rw [hu] at h3; cases d <;> simp [TK.ok] at h3; rfl
theorem TOk.und_struct {P : Program} {T : Tab} (h : TOk P T) {t : Nat} {l : List (Nat × Nat)} {i : TI} (ht : T t = some i) (hk : i.k = .struct l) :
    ∃ fs, P.underlying t = some (.struct fs) ∧ fs.toList.map (fun f => (f.offset, f.type)) = l ∧ ∀ f ∈ fs.toList, P.cellsOf f.type ≠ 0 := by
  obtain ⟨f, _, _, _, h3, _⟩ := h.info ht
  rw [hk] at h3
  cases hu : P.underlying t with
  | none => rw [hu] at h3; cases h3
  | some d =>
    rw [hu] at h3
    cases d <;> simp only [TK.ok] at h3
    all_goals first
      | (cases h3; done)
      | (rename_i fs
         simp only [Bool.and_eq_true, beq_iff_eq, List.all_eq_true, bne_iff_ne, ne_eq] at h3
         exact ⟨fs, rfl, h3.1, h3.2⟩)

def TK.agg : TK → Bool
  | .arr _ _ | .struct _ => true
  | .other => true
  | _ => false

theorem TOk.isAgg {P : Program} {T : Tab} (h : TOk P T) {t : Nat} {i : TI} (ht : T t = some i) (hk : i.k.agg = false) (w : World) : (isAgg t).run P w = .ok false w := by
  obtain ⟨f, _, _, _, h3, _⟩ := h.info ht
  unfold Go.isAgg
  cases hu : P.underlying t with
  | none => rw [hu] at h3; cases hk' : i.k <;> rw [hk'] at h3 <;> cases h3
  | some d =>
    rw [hu] at h3
    simp only [Sem.run_bind, run_underlying hu w, Result.andThen_ok]
    cases hk' : i.k <;> rw [hk'] at h3 hk <;> simp [TK.agg] at hk <;> cases d <;> simp [TK.ok] at h3 <;> rfl

theorem TOk.isRow {P : Program} {T : Tab} (h : TOk P T) {t : Nat} {i : TI} (ht : T t = some i) (hk : (match i.k with | .arr _ _ | .struct _ => true | _ => false) = true) :
    ∃ d, P.underlying t = some d ∧ d.isRow = true := by
  obtain ⟨f, _, _, _, h3, _⟩ := h.info ht
  cases hu : P.underlying t with
  | none => rw [hu] at h3; cases hk' : i.k <;> rw [hk'] at h3 <;> cases h3
  | some d =>
    rw [hu] at h3
    refine ⟨d, rfl, ?_⟩
    cases hk' : i.k <;> rw [hk'] at h3 hk <;> simp at hk <;> cases d <;> simp [TK.ok] at h3 <;> rfl

/-- A constant. -/
def cmv : Value → Option MV
  | .int k n => some (.one (.sc (.int k n)))
  | .bool b => some (.one (.sc (.bool b)))
  | .string s => some (.one (.sc (.string s)))
  | .slice none 0 0 => some (.one .nil)
  | .pointer none => some (.one .dead)
  | _ => none
def evO (s : S) : Operand → Option MV
  | .tmp t => look s.env t
  | .const v => cmv v
  | .func f => some (.one (.sc (.func (.func f) #[] #[])))
  | .global _ => none

section
variable {w0 : World} {wr : Wr} {A : Nat → Prop} {L : Lay} {F : FF} {s : S} {a : Act} {w : World}

theorem evO_ok (h : Rl w0 wr A L F s a w) {x : Operand} {v : MV} (hv : evO s x = some v) : RV (look s.st) L w F v (a.eval x) ∧ v.bd s.n := by
  cases x with
  | tmp t => exact ⟨h.env t v hv, h.ben t v hv⟩
  | const c =>
    have hv : cmv c = some v := hv
    show RV (look s.st) L w F v c ∧ v.bd s.n
    unfold cmv at hv
    split at hv
    · obtain rfl := Option.some.inj hv; exact ⟨⟨rfl, rfl⟩, trivial⟩
    · obtain rfl := Option.some.inj hv; exact ⟨⟨rfl, rfl⟩, trivial⟩
    · obtain rfl := Option.some.inj hv; exact ⟨⟨rfl, rfl⟩, trivial⟩
    · obtain rfl := Option.some.inj hv; exact ⟨⟨none, rfl⟩, trivial⟩
    · obtain rfl := Option.some.inj hv; exact ⟨rfl, trivial⟩
    · cases hv
  | global g => cases hv
  | func f =>
    obtain rfl := Option.some.inj hv
    exact ⟨⟨rfl, rfl⟩, trivial⟩
end

/-- What an operation does from a state: whatever holds behind it. -/
def OpOK (P : Program) (o : Oper) (s : S) (K : S → Prop) : Prop :=
  ∀ (w0 : World) (wr : Wr) (A : Nat → Prop) (a : Act) (w : World) (Q : Exit → Act → World → Prop) (K' : Act → World → Prop), Rel w0 wr A s a w →
    (∀ s' a' w', Rel w0 wr A s' a' w' → K s' → K' a' w') → o.wp P a w K' Q

/-- An operation that yields a value and leaves the world's heap alone. -/
theorem OpOK.val {P : Program} {o : Oper} {s : S} {K : S → Prop} {v : MV} (hd : ∀ x, o.dst = some x → x < s.m)
    (h : ∀ w0 wr A L F a w, Rl w0 wr A L F s a w → ∃ u, (execOp a.eval o).run P w = .ok (.value u) w ∧ RV (look s.st) L w F v u ∧ v.bd s.n) (hk : K (s.put o.dst v)) : OpOK P o s K := by
  intro w0 wr A a w Q K' ⟨L, F, hr⟩ hK
  obtain ⟨u, he, hu, hb⟩ := h _ _ _ _ _ _ _ hr
  unfold Oper.wp
  rw [he]
  exact hK _ _ _ ⟨L, F, hr.put hd hu hb⟩ hk

def Oper.dok (o : Oper) (m : Nat) : Bool := match o.dst with | some d => decide (d < m) | none => true
theorem Oper.dok_spec {o : Oper} {m : Nat} (h : Oper.dok o m = true) : ∀ x, o.dst = some x → x < m := by
  intro x hx
  simp only [Oper.dok, hx, decide_eq_true_eq] at h
  exact h

end Mg
