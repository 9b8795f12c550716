/- Parts of the abstract state logic and of the walks, one behind the other: Mg46, Mg45, Mg47, Mg35, Mg33, Mg23. No condition. -/
import Derived.Test.YtedgmfmhilihoaaDoorP11
import Derived.Shelf.Strings.Builder1
import Derived.Test.YtedgmfmhilihoaaDoorP4
import Derived.Shelf.Strconv.Itoa3
/- The abstract state logic, part 46: a strings.Builder that the call makes itself. No condition. -/
namespace Mg
open Go Go.RowKit Go.Shelf Go.Proofs
set_option linter.unusedVariables false

variable {P : Program} {T : Tab} {ρ : Ren}

/-- What the library's builder asks of a program. -/
structure BL (P : Program) (ρ : Ren) : Prop where
  wr : Lays.n166 P ρ
  st : Lays.n169 P ρ
  x : Builder.Extra P ρ
  z : ∃ f, P.info? (ρ.t 72) = some f ∧ f.size = 2 ∧ f.zero = some (.agg #[.pointer none, .slice none 0 0])

/-- The builder: not there, or in a block of its own with what was written. -/
abbrev BO := Option (Nat × List UInt8)
def IsB (ρ : Ren) (B : Nat) (o : BO) (w : World) : Prop := match o with
  | none => True
  | some (b, l) => Lib.IsBuilder (ρ.t 72) (ρ.t 5) B b (Lib.byteCells l) w
theorem BuilderAt.kept {T e : TypeId} {B b : Nat} {p : Value} {bs : List Value} {w w' : World} (h : Lib.BuilderAt T e B b p bs w) (hg : ∀ k, B ≤ k → k < w.heap.size → w'.heap[k]? = w.heap[k]?) : Lib.BuilderAt T e B b p bs w' := by
  have hlt := h.lt
  obtain ⟨hB, v, hb, hown, hne⟩ := h
  refine ⟨hB, v, by rw [hg b hB hlt]; exact hb, ?_, hne⟩
  refine ⟨hown.1, ?_⟩
  rcases hown.2 with hn | ⟨g, cap, cur, rfl, hbg, hgg, rest⟩
  · exact .inl hn
  · exact .inr ⟨g, cap, cur, rfl, hbg, by rw [hg g hbg (Array.getElem?_eq_some_iff.1 hgg).1]; exact hgg, rest⟩
theorem IsB.kept {B : Nat} {o : BO} {w w' : World} (h : IsB ρ B o w) (hg : ∀ k, B ≤ k → k < w.heap.size → w'.heap[k]? = w.heap[k]?) : IsB ρ B o w' := by
  cases o with
  | none => trivial
  | some q => exact h.imp (fun h => BuilderAt.kept h hg) (fun h => BuilderAt.kept h hg)

def wr0 : Wr := ⟨fun _ => False, 0, fun _ => none, fun _ => False⟩

/-- What stays readable whatever is done to the builder. -/
def plC (A : Nat → Prop) : MC → Prop
  | .tr false B _ _ => B = A
  | _ => True
def plL (A : Nat → Prop) : List MC → Prop
  | [] => True
  | c :: cs => plC A c ∧ plL A cs
def plV (A : Nat → Prop) : MV → Prop
  | .one c => plC A c
  | .agg cs => plL A cs
  | _ => True
def plE (A : Nat → Prop) : List (Nat × MV) → Prop
  | [] => True
  | (_, v) :: l => plV A v ∧ plE A l
def plS (A : Nat → Prop) (s : S) : Prop := plE A s.env ∧ match look s.st 0 with
  | some (.box cs) => plL A cs
  | _ => True
/-- k: is the box of the name 0 kept? -/
def cutC (k : Bool) : MC → MC
  | .sc v => .sc v
  | .tr false B u rows => .tr false B u rows
  | .ptr 0 r f => match k with
    | true => .ptr 0 r f
    | false => .dead
  | _ => .dead
def cutV (k : Bool) : MV → MV
  | .one c => .one (cutC k c)
  | .agg cs => .agg (cs.map (cutC k))
  | .tup [] => .tup []
  | _ => .un
def cutE (k : Bool) : List (Nat × MV) → List (Nat × MV)
  | [] => []
  | (t, v) :: l => (t, cutV k v) :: cutE k l
def cutSt (k : Bool) (st : List (Nat × Ob)) : List (Nat × Ob) := match k with
  | false => []
  | true => match look st 0 with
    | some (.box cs) => [(0, .box (cs.map (cutC true)))]
    | _ => []
theorem look_cutE (k : Bool) (t : Nat) : ∀ l : List (Nat × MV), look (cutE k l) t = (look l t).map (cutV k)
  | [] => rfl
  | (j, v) :: l => by
    simp only [cutE, look_cons]
    split
    · rfl
    · exact look_cutE k t l
theorem plE_look {A : Nat → Prop} {t : Nat} {v : MV} : ∀ {l : List (Nat × MV)}, plE A l → look l t = some v → plV A v
  | (k, u) :: l, h, hl => by
    rw [look_cons] at hl
    split at hl
    · obtain rfl := Option.some.inj hl; exact h.1
    · exact plE_look h.2 hl
theorem plL_mem {A : Nat → Prop} {c : MC} : ∀ {l : List MC}, plL A l → c ∈ l → plC A c
  | x :: l, h, hl => by
    rcases List.mem_cons.1 hl with rfl | hl
    · exact h.1
    · exact plL_mem h.2 hl
def S.cut (k : Bool) (s : S) : S := ⟨s.m, s.n, cutE k s.env, cutSt k s.st⟩
theorem look_cutSt {k : Bool} {st : List (Nat × Ob)} {i : Nat} {o : Ob} (h : look (cutSt k st) i = some o) : k = true ∧ i = 0 ∧ ∃ cs, look st 0 = some (.box cs) ∧ o = .box (cs.map (cutC true)) := by
  unfold cutSt at h
  cases k with
  | false => simp at h
  | true =>
    simp only at h
    split at h
    · rename_i cs hl
      rw [look_cons] at h
      split at h
      · rename_i e; exact ⟨rfl, e, cs, hl, (Option.some.inj h).symm⟩
      · simp at h
    · simp at h

theorem RC.cut {k : Bool} {st : List (Nat × Ob)} {L L' : Lay} {w w' : World} {F : FF} {A : Nat → Prop} {c : MC} {v : Value} (h : RC (look st) L w F c v) (hc : plC A c) (hw : ∀ b, A b → w'.heap[b]? = w.heap[b]?) (hL : k = true → L' 0 = L 0) :
    RC (look (cutSt k st)) L' w' ⟨fun _ => False, A⟩ (cutC k c) v := by
  cases c with
  | sc u => exact h
  | tr o B u rows =>
    cases o with
    | true => exact h.one
    | false =>
      obtain rfl : B = A := hc
      exact ⟨h.1, fun b hb => ⟨.inr hb, fun ho => by cases ho⟩, h.2.2.mono hw⟩
  | ptr id r f =>
    cases id with
    | succ id => exact h.one
    | zero =>
      cases k with
      | false => exact h.one
      | true =>
        refine ⟨h.1, fun hs => ?_⟩
        obtain ⟨o, ho⟩ := Option.isSome_iff_exists.1 hs
        obtain ⟨_, _, cs, hcs, _⟩ := look_cutSt ho
        obtain ⟨b, t, h1, h2⟩ := h.2 (by rw [hcs]; rfl)
        exact ⟨b, t, by rw [hL rfl]; exact h1, h2⟩
  | _ => exact h.one
theorem RV.cut {k : Bool} {st : List (Nat × Ob)} {L L' : Lay} {w w' : World} {F : FF} {A : Nat → Prop} {x : MV} {v : Value} (h : RV (look st) L w F x v) (hc : plV A x) (hw : ∀ b, A b → w'.heap[b]? = w.heap[b]?) (hL : k = true → L' 0 = L 0) :
    RV (look (cutSt k st)) L' w' ⟨fun _ => False, A⟩ (cutV k x) v := by
  cases x with
  | un => trivial
  | one c => exact RC.cut (v := v) h hc hw hL
  | agg cs =>
    obtain ⟨arr, rfl, h1, h2⟩ := h
    refine ⟨arr, rfl, by simpa using h1, fun j c hj => ?_⟩
    rw [List.getElem?_map] at hj
    obtain ⟨d, hd, rfl⟩ := Option.map_eq_some_iff.1 hj
    obtain ⟨u, hu, hr⟩ := h2 j d hd
    exact ⟨u, hu, hr.cut (plL_mem hc (List.mem_of_getElem? hd)) hw hL⟩
  | tup vs =>
    cases vs with
    | nil =>
      obtain ⟨arr, e, hz, _⟩ := h
      exact ⟨arr, e, hz, fun j x hj => by simp at hj⟩
    | cons y ys => trivial
theorem cutC_bd {k : Bool} {c : MC} {n : Nat} (h : c.bd n) : (cutC k c).bd n := by
  cases c with
  | tr o B u rows => cases o <;> trivial
  | ptr id r f =>
    cases id with
    | succ id => trivial
    | zero => cases k <;> first | trivial | exact h
  | _ => trivial
theorem cutV_bd {k : Bool} {x : MV} {n : Nat} (h : x.bd n) : (cutV k x).bd n := by
  cases x with
  | un => trivial
  | one c => exact cutC_bd (c := c) h
  | agg cs =>
    intro c hc
    obtain ⟨d, hd, rfl⟩ := List.mem_map.1 hc
    exact cutC_bd (h d hd)
  | tup vs =>
    cases vs with
    | nil => exact fun v hv => by simp at hv
    | cons y ys => trivial

/-- What may be written while the builder is there: the box of the name 0. -/
def kOf : BO → Bool
  | none => false
  | some _ => true
structure StB (w0 : World) (B : Nat) (o : BO) (wr : Wr) : Prop where
  k : wr.k = (kOf o).toNat
  m : ∀ b, wr.m b → ∃ t, kOf o = true ∧ wr.pin 0 = some (b, t)
  pin : ∀ b t, kOf o = true → wr.pin 0 = some (b, t) → (w0.heap.size ≤ b ∧ b < B) ∧ wr.m b
  z : o = none → wr = wr0
  o : ∀ b, ¬ wr.o b

/-- The state said anew from a later world on. -/
theorem Rl.anew {w0 w1 : World} {wr wr' : Wr} {A : Nat → Prop} {L : Lay} {F : FF} {s : S} {a : Act} {w w' : World} (k : Bool) (h : Rl w1 wr A L F s a w) (hp : plS A s) (hA : ∀ b, A b → b < w0.heap.size) (hsz : w0.heap.size ≤ w.heap.size ∧ w.heap.size ≤ w'.heap.size)
    {B : Nat} (hw : ∀ b, b < B → w'.heap[b]? = w.heap[b]?) (hB : w0.heap.size ≤ B) (hk : wr'.k = k.toNat) (hpin : k = true → wr'.pin 0 = L 0 ∧ 0 < s.n ∧ ∀ b t, (look s.st 0).isSome = true → L 0 = some (b, t) → (w0.heap.size ≤ b ∧ b < B) ∧ wr' b) :
    Rl w' wr' A L ⟨fun _ => False, A⟩ (s.cut k) a w' := by
  have hAw : ∀ b, A b → w'.heap[b]? = w.heap[b]? := fun b hb => hw b (Nat.lt_of_lt_of_le (hA b hb) hB)
  refine ⟨rfl, rfl, rfl, Nat.le_refl _, fun _ _ _ => rfl, fun _ _ _ h => h, fun i hi => ?_, rfl, fun b hb => hb.elim, fun b hb => Nat.lt_of_lt_of_le (hA b (hb.resolve_left id)) (Nat.le_trans hsz.1 hsz.2), ?_, ?_, ?_, h.sz, ?_, ?_, ?_, h.df⟩
  · rw [hk] at hi
    cases k with
    | false => exact absurd hi (Nat.not_lt_zero i)
    | true =>
      obtain rfl : i = 0 := by simpa using hi
      exact ⟨(hpin rfl).1.symm, (hpin rfl).2.1⟩
  · intro id o ho
    obtain ⟨rfl, rfl, cs, hcs, rfl⟩ := look_cutSt ho
    obtain ⟨b, t, hL, hf, hc⟩ := h.ob 0 _ hcs
    have hb := ((hpin rfl).2.2 b t (by rw [hcs]; rfl) hL).1.2
    have hpl : plL A cs := by have := hp.2; rw [hcs] at this; exact this
    refine ⟨b, t, hL, fun j => by rw [World.frozen?_of_block (w := w) (hw b hb)]; exact hf j, fun j x hj => ?_⟩
    rw [List.getElem?_map] at hj
    obtain ⟨d, hd, rfl⟩ := Option.map_eq_some_iff.1 hj
    obtain ⟨u, hu, hr⟩ := hc j d hd
    exact ⟨u, by rw [World.cell?_of_block (w := w) (hw b hb)]; exact hu, hr.cut (plL_mem hpl (List.mem_of_getElem? hd)) hAw fun _ => rfl⟩
  · intro id b t ho hL
    obtain ⟨o, ho⟩ := Option.isSome_iff_exists.1 ho
    obtain ⟨rfl, rfl, cs, hcs, rfl⟩ := look_cutSt ho
    have hb := (hpin rfl).2.2 b t (by rw [hcs]; rfl) hL
    have hlive := h.own 0 b t (by rw [hcs]; rfl) hL
    exact ⟨fun hf => by have := hA b (hf.resolve_left id); omega, Nat.lt_of_lt_of_le hlive.2.1 hsz.2, .inr hb.2⟩
  · intro i j b t u hi hj _ _
    obtain ⟨o, ho⟩ := Option.isSome_iff_exists.1 hi
    obtain ⟨o', ho'⟩ := Option.isSome_iff_exists.1 hj
    rw [(look_cutSt ho).2.1, (look_cutSt ho').2.1]
  · intro t v hv
    simp only [S.cut, look_cutE] at hv
    obtain ⟨u, hu, rfl⟩ := Option.map_eq_some_iff.1 hv
    exact (h.env t u hu).cut (plE_look hp.1 hu) hAw fun _ => rfl
  · intro id o ho
    obtain ⟨rfl, rfl, cs, hcs, rfl⟩ := look_cutSt ho
    have hb := h.bst 0 _ hcs
    refine ⟨hb.1, fun c hc => ?_⟩
    obtain ⟨d, hd, rfl⟩ := List.mem_map.1 hc
    exact cutC_bd (hb.2 d hd)
  · intro t v hv
    simp only [S.cut, look_cutE] at hv
    obtain ⟨u, hu, rfl⟩ := Option.map_eq_some_iff.1 hv
    exact cutV_bd (h.ben t u hu)

/-- The state with a builder: from the last world w1 in which it was written, the rest is as ever. -/
def RB (ρ : Ren) (w0 : World) (A : Nat → Prop) (o : BO) (s : S) (a : Act) (w : World) : Prop :=
  ∃ (w1 : World) (wr : Wr) (B : Nat), Below w0.heap.size w0 w1 ∧ (w0.heap.size ≤ B ∧ B ≤ w1.heap.size) ∧ IsB ρ B o w1 ∧ StB w0 B o wr ∧ Rel w1 wr A s a w

theorem StB.below {w0 w1 w : World} {wr : Wr} {B : Nat} {o : BO} (hS : StB w0 B o wr) {A : Nat → Prop} {L : Lay} {F : FF} {s : S} {a : Act} (h : Rl w1 wr A L F s a w) (hb : Below w0.heap.size w0 w1) : Below w0.heap.size w0 w :=
  hb.trans ⟨h.os, h.tape, h.output, h.size, fun k hk => h.keep k (Nat.lt_of_lt_of_le hk hb.size) fun hm => by
    obtain ⟨t, h1, h2⟩ := hS.m k hm
    have := (hS.pin k t h1 h2).1.1
    omega⟩
theorem StB.kept {w0 w1 w : World} {wr : Wr} {B : Nat} {o : BO} (hS : StB w0 B o wr) {A : Nat → Prop} {L : Lay} {F : FF} {s : S} {a : Act} (h : Rl w1 wr A L F s a w) (hB : IsB ρ B o w1) : IsB ρ B o w :=
  hB.kept fun k h1 h2 => h.keep k h2 fun hm => by
    obtain ⟨t, h3, h4⟩ := hS.m k hm
    have := (hS.pin k t h3 h4).1.2
    omega
theorem StB.ge {w0 w1 : World} {wr : Wr} {B : Nat} {o : BO} (hS : StB w0 B o wr) {A : Nat → Prop} (h : GT P w0 wr0.m) (hb : Below w0.heap.size w0 w1) : GE P w1 wr A :=
  ⟨h.move hb.size fun g h1 _ => ⟨hb.block g h1, fun hm => by
    obtain ⟨t, h3, h4⟩ := hS.m g hm
    have := (hS.pin g t h3 h4).1.1
    omega⟩, fun b hb => (hS.o b hb).elim⟩
theorem stB0 (w0 : World) (B : Nat) : StB w0 B none wr0 := ⟨rfl, fun b h => h.elim, fun b t h => (by cases h), fun _ => rfl, fun b h => h⟩

/-- What an operation does from a state with a builder. -/
def OpB (P : Program) (ρ : Ren) (A : Nat → Prop) (o : Oper) (s : S) (b : BO) (K : S → BO → Prop) : Prop :=
  ∀ (w0 : World) (a : Act) (w : World) (Q : Exit → Act → World → Prop) (K' : Act → World → Prop), GT P w0 wr0.m → (∀ k, A k → k < w0.heap.size) → RB ρ w0 A b s a w →
    (∀ s' b' a' w', RB ρ w0 A b' s' a' w' → K s' b' → K' a' w') → o.wp P a w K' Q

theorem OpB.of {A : Nat → Prop} {o : Oper} {s : S} {b : BO} {K : S → BO → Prop} (h : OpOK P o s fun s' => K s' b) : OpB P ρ A o s b K := by
  intro w0 a w Q K' hg hA ⟨w1, wr, B, hb, hBs, hB, hS, hr⟩ hK
  exact h w1 wr A a w Q K' (hS.ge hg hb) hr fun s' a' w' hr' hk => hK s' b a' w' ⟨w1, wr, B, hb, hBs, hB, hS, hr'⟩ hk

/-- The builder is made. -/
theorem OpB.make {A : Nat → Prop} {o : Oper} {s : S} {K : S → BO → Prop} {d : Nat} {cs : List MC} (hl : BL P ρ) (ho : o.op = .alloc (ρ.t 72)) (hd : o.dst = some d) (hdm : d < s.m) (hp : plS A s) (h0 : look s.st 0 = some (.box cs))
    (k : ∀ b, K ((s.cut true).put (some d) (.one (.sc (.pointer (some ⟨b, 0, none⟩))))) (some (b, []))) : OpB P ρ A o s none K := by
  intro w0 a w Q K' hg hA ⟨w1, wr, B, hb, hBs, hB, hS, L, F, hr⟩ hK
  have hbw := hS.below hr hb
  obtain ⟨f, hf, hfs, hz⟩ := hl.z
  have hrun : (execOp a.eval o).run P w = .ok (.value (.pointer (some ⟨w.heap.size, 0, none⟩))) (w.alloc (.cells #[.pointer none, .slice none 0 0] (ρ.t 72) (0, 0))) := by
    simp [execOp, ho, Instr.alloc, typeInfo, hf, hz, zeroValue]
    try rfl
  unfold Oper.wp
  rw [hrun, Oper.upon_value, hd]
  have hold : ∀ b, b < w.heap.size → (w.alloc (.cells #[.pointer none, .slice none 0 0] (ρ.t 72) (0, 0))).heap[b]? = w.heap[b]? := fun b hb => Below.heap_alloc _ _ _ hb
  have hsz : w.heap.size < (w.alloc (.cells #[.pointer none, .slice none 0 0] (ρ.t 72) (0, 0))).heap.size := by
    show w.heap.size < (w.heap.push _).size
    simp
  generalize hw' : w.alloc (.cells #[.pointer none, .slice none 0 0] (ρ.t 72) (0, 0)) = w' at *
  obtain ⟨b0, t0, hL0, _⟩ := hr.ob 0 _ h0
  have hlive := hr.own 0 b0 t0 (by rw [h0]; rfl) hL0
  have hb0 : w0.heap.size ≤ b0 := by
    rcases hlive.2.2 with h | h
    · exact Nat.le_trans hb.size h
    · obtain ⟨t, h1, _⟩ := hS.m b0 h; cases h1
  let wr' : Wr := ⟨fun b => b = b0, 1, L, fun _ => False⟩
  have hS' : StB w0 w.heap.size (some (w.heap.size, [])) wr' := ⟨rfl, fun b hb => ⟨t0, rfl, by rw [show b = b0 from hb]; exact hL0⟩, fun b t _ hp => by
    have hp : L 0 = some (b, t) := hp
    rw [hL0] at hp
    obtain ⟨rfl, rfl⟩ := Prod.mk.inj (Option.some.inj hp)
    exact ⟨⟨hb0, hlive.2.1⟩, rfl⟩, (fun h => by cases h), fun b h => h⟩
  refine hK _ (some (w.heap.size, [])) _ _ ⟨w', wr', w.heap.size, hbw.trans ⟨by rw [← hw']; rfl, by rw [← hw']; rfl, by rw [← hw']; rfl, Nat.le_of_lt hsz, fun k hk => hold k (Nat.lt_of_lt_of_le hk hbw.size)⟩, ⟨hbw.size, Nat.le_of_lt hsz⟩, ?_, hS', L, _,
    ((hr.anew (w0 := w0) (wr' := wr') (w' := w') true hp hA ⟨hbw.size, Nat.le_of_lt hsz⟩ (B := w.heap.size) hold hbw.size rfl (fun _ => ⟨rfl, (hr.bst 0 _ h0).1, fun b t _ hp => by
      rw [hL0] at hp
      obtain ⟨rfl, rfl⟩ := Prod.mk.inj (Option.some.inj hp)
      exact ⟨⟨hb0, hlive.2.1⟩, rfl⟩⟩)).put (d := some d) (v := .one (.sc (.pointer (some ⟨w.heap.size, 0, none⟩)))) (fun x hx => by cases hx; exact hdm) ⟨rfl, rfl⟩ trivial)⟩ (k w.heap.size)
  refine .inl ⟨Nat.le_refl _, .slice none 0 0, ?_, World.ownsRow_nil _ _ _ _, by simp [Value.ownBlock]⟩
  rw [← hw']
  show (w.heap.push _)[w.heap.size]? = _
  simp

theorem byteCells_app (l : List UInt8) (b : ByteArray) : Lib.byteCells l ++ Lib.strCells b = Lib.byteCells (l ++ b.data.toList) := by
  simp [Lib.byteCells, Lib.strCells]

/-- The builder is written. -/
theorem OpB.write {A : Nat → Prop} {o : Oper} {s : S} {K : S → BO → Prop} {x y : Operand} {ts : Array TypeId} {b : Nat} {l : List UInt8} {t : ByteArray} (hl : BL P ρ) (ho : o.op = .call { callee := .value (.func (ρ.f 166)), args := #[x, y], argTypes := ts })
    (hd : Oper.dok o s.m = true) (hx : evO s x = some (.one (.sc (.pointer (some ⟨b, 0, none⟩))))) (hy : evO s y = some (.one (.sc (.string t)))) (hp : plS A s) (hn : l.length + t.size ≤ 140737488355328)
    (k : K ((s.cut true).put o.dst .un) (some (b, l ++ t.data.toList))) : OpB P ρ A o s (some (b, l)) K := by
  intro w0 a w Q K' hg hA ⟨w1, wr, B, hb, hBs, hB, hS, L, F, hr⟩ hK
  have hbw := hS.below hr hb
  have hBw := hS.kept hr hB
  have hrun : (execOp a.eval o).run P w = .ok (.enter (ρ.f 166) #[.pointer (some ⟨b, 0, none⟩), .string t]) w := by
    have e1 := (evO_ok hr hx).1.1
    have e2 := (evO_ok hr hy).1.1
    have hfn := hl.wr.f166
    have hev : a.eval (.func (ρ.f 166)) = .func (.func (ρ.f 166)) #[] #[] := rfl
    have hname : ((Body.n166 ρ).name == "runtime.NumGoroutine") = false := by kernel_rfl
    have hbody : (Body.n166 ρ).body.isNone = false := by kernel_rfl
    simp only [execOp, ho, resolve, hev, Deferred.ofValue, Sem.run_bind, Sem.run_pure, Result.andThen_ok, invoke, callFunc, run_program, hfn, hname, hbody]
    simp [e1, e2]
  unfold Oper.wp
  rw [hrun]
  show Calls P (ρ.f 166) #[.pointer (some ⟨b, 0, none⟩), .string t] w _
  refine (Any.Builder_WriteString hl.wr hl.x B b (Lib.byteCells l) t w hBw (by simpa [Lib.byteCells] using hn) (Nat.le_trans hBs.2 hr.size)).mono fun e w' hpost => ?_
  obtain ⟨rfl, hat, hbel⟩ := hpost
  rw [byteCells_app] at hat
  refine hK _ (some (b, l ++ t.data.toList)) _ _ ⟨w', wr, B, hbw.trans (hbel.mono hBs.1), ⟨hBs.1, Nat.le_trans hBs.2 (Nat.le_trans hr.size hbel.size)⟩, Or.inr hat, ⟨hS.k, hS.m, hS.pin, (fun h => by cases h), hS.o⟩, L, _,
    ((hr.anew (w0 := w0) (wr' := wr) (w' := w') true hp hA ⟨hbw.size, hbel.size⟩ hbel.block hBs.1 hS.k (fun _ => by
      obtain ⟨h1, h2⟩ := hr.pin 0 (by rw [hS.k]; exact Nat.one_pos)
      exact ⟨h1.symm, h2, fun b t _ hp => hS.pin b t rfl (by rw [← h1]; exact hp)⟩)).put (v := .un) (Oper.dok_spec hd) trivial trivial)⟩ k

/-- What was written. -/
theorem OpB.text {A : Nat → Prop} {o : Oper} {s : S} {K : S → BO → Prop} {x : Operand} {ts : Array TypeId} {b : Nat} {l : List UInt8} (hl : BL P ρ) (ho : o.op = .call { callee := .value (.func (ρ.f 169)), args := #[x], argTypes := ts })
    (hd : Oper.dok o s.m = true) (hx : evO s x = some (.one (.sc (.pointer (some ⟨b, 0, none⟩))))) (hp : plS A s)
    (k : K ((s.cut false).put o.dst (.one (.sc (.string ⟨l.toArray⟩)))) none) : OpB P ρ A o s (some (b, l)) K := by
  intro w0 a w Q K' hg hA ⟨w1, wr, B, hb, hBs, hB, hS, L, F, hr⟩ hK
  have hbw := hS.below hr hb
  have hBw := hS.kept hr hB
  have hrun : (execOp a.eval o).run P w = .ok (.enter (ρ.f 169) #[.pointer (some ⟨b, 0, none⟩)]) w := by
    have e1 := (evO_ok hr hx).1.1
    have hfn := hl.st.f169
    have hev : a.eval (.func (ρ.f 169)) = .func (.func (ρ.f 169)) #[] #[] := rfl
    have hname : ((Body.n169 ρ).name == "runtime.NumGoroutine") = false := by kernel_rfl
    have hbody : (Body.n169 ρ).body.isNone = false := by kernel_rfl
    simp only [execOp, ho, resolve, hev, Deferred.ofValue, Sem.run_bind, Sem.run_pure, Result.andThen_ok, invoke, callFunc, run_program, hfn, hname, hbody]
    simp [e1]
  unfold Oper.wp
  rw [hrun]
  show Calls P (ρ.f 169) #[.pointer (some ⟨b, 0, none⟩)] w _
  refine (Any.Builder_String_any hl.st hl.x B b l w hBw (Nat.le_trans hBs.2 hr.size)).mono fun e w' hpost => ?_
  obtain ⟨rfl, hbel⟩ := hpost
  refine hK _ none _ _ ⟨w', wr0, B, hbw.trans (hbel.mono hBs.1), ⟨hBs.1, Nat.le_trans hBs.2 (Nat.le_trans hr.size hbel.size)⟩, trivial, stB0 _ _, L, _,
    ((hr.anew (w0 := w0) (wr' := wr0) (w' := w') false hp hA ⟨hbw.size, hbel.size⟩ hbel.block hBs.1 rfl (fun h => by cases h)).put (v := .one (.sc (.string ⟨l.toArray⟩))) (Oper.dok_spec hd) ⟨rfl, rfl⟩ trivial)⟩ k

/- ------------------------------------------------ code -/
def WB (P : Program) (ρ : Ren) (A : Nat → Prop) (c : Code) (s : S) (b : BO) (Q : Exit → S → BO → Prop) : Prop :=
  ∀ (w0 : World) (a : Act) (w : World), GT P w0 wr0.m → (∀ k, A k → k < w0.heap.size) → RB ρ w0 A b s a w → c.wp P (fun x a' w' => ∃ s' b', RB ρ w0 A b' s' a' w' ∧ Q x s' b') a w
theorem WB.mono {A : Nat → Prop} {c : Code} {s : S} {b : BO} {Q Q' : Exit → S → BO → Prop} (h : WB P ρ A c s b Q) (hq : ∀ e s b, Q e s b → Q' e s b) : WB P ρ A c s b Q' := fun w0 a w hg hA hr =>
  wp_mono (h w0 a w hg hA hr) fun e a w ⟨s', b', h1, h2⟩ => ⟨s', b', h1, hq e s' b' h2⟩
theorem WB.of {A : Nat → Prop} {c : Code} {s : S} {b : BO} {Q : Exit → S → BO → Prop} (h : W (kOf b).toNat P c s fun e s => Q e s b) : WB P ρ A c s b Q := fun w0 a w hg hA ⟨w1, wr, B, hb, hBs, hB, hS, hr⟩ =>
  wp_mono (h w1 wr A a w ⟨hS.k, hS.ge hg hb⟩ hr) fun e a' w' ⟨s', h1, h2⟩ => ⟨s', b, ⟨w1, wr, B, hb, hBs, hB, hS, h1⟩, h2⟩
def thnB (K : S → BO → Prop) (Q : Exit → S → BO → Prop) : Exit → S → BO → Prop
  | .normal, s, b => K s b
  | e, s, b => Q e s b
theorem WB.seq {A : Nat → Prop} {x y : Code} {s : S} {b : BO} {Q : Exit → S → BO → Prop} (h : WB P ρ A x s b (thnB (fun s b => WB P ρ A y s b Q) Q)) : WB P ρ A (.seq x y) s b Q := fun w0 a w hg hA hr => by
  refine wp_seq (wp_mono (h w0 a w hg hA hr) fun e a w ⟨s', b', h1, h2⟩ => ?_)
  cases e with
  | normal => exact h2 w0 a w hg hA h1
  | _ => exact ⟨s', b', h1, h2⟩
def blkB (id : Nat) (Q : Exit → S → BO → Prop) : Exit → S → BO → Prop
  | .exit id', s, b => if id' = id then Q .normal s b else Q (.exit id') s b
  | e, s, b => Q e s b
theorem WB.block {A : Nat → Prop} {id : Nat} {c : Code} {s : S} {b : BO} {Q : Exit → S → BO → Prop} (h : WB P ρ A c s b (blkB id Q)) : WB P ρ A (.block id c) s b Q := fun w0 a w hg hA hr => by
  refine wp_block (wp_mono (h w0 a w hg hA hr) fun e a w ⟨s', b', h1, h2⟩ => ?_)
  cases e with
  | exit id' =>
    simp only [Exit.inBlock, blkB] at h2 ⊢
    split
    · rename_i he; rw [if_pos he] at h2; exact ⟨s', b', h1, h2⟩
    · rename_i he; rw [if_neg he] at h2; exact ⟨s', b', h1, h2⟩
  | _ => exact ⟨s', b', h1, h2⟩
theorem WB.cond {A : Nat → Prop} {c : Operand} {x y : Code} {s : S} {b : BO} {Q : Exit → S → BO → Prop} {t : Bool} (hc : evO s c = some (.one (.sc (.bool t)))) (h : WB P ρ A (if t = true then x else y) s b Q) : WB P ρ A (.cond c x y) s b Q :=
  fun w0 a w hg hA ⟨w1, wr, B, hb, hBs, hB, hS, L, F, hr⟩ => by
    obtain ⟨⟨h1, _⟩, _⟩ := evO_ok hr hc
    exact wp_cond h1 (h w0 a w hg hA ⟨w1, wr, B, hb, hBs, hB, hS, L, F, hr⟩)
/-- The operations of a region without guards. -/
def SeqB (P : Program) (ρ : Ren) (A : Nat → Prop) : List Oper → S → BO → (S → BO → Prop) → Prop
  | [], s, b, K => K s b
  | o :: rest, s, b, K => o.guard = none ∧ OpB P ρ A o s b fun s' b' => SeqB P ρ A rest s' b' K
theorem seqB_ok {all : Array Oper} {A : Nat → Prop} {Q : Exit → Act → World → Prop} {w0 : World} {K : S → BO → Prop} (hg : GT P w0 wr0.m) (hA : ∀ k, A k → k < w0.heap.size) (hQ : ∀ s b a w, RB ρ w0 A b s a w → K s b → Q .normal a w) :
    ∀ (l : List Oper) (s : S) (b : BO) (a : Act) (w : World), SeqB P ρ A l s b K → RB ρ w0 A b s a w → wpList P all Q l a w
  | [], s, b, a, w, h, hr => hQ s b a w hr h
  | o :: rest, s, b, a, w, h, hr => by
    have ih := fun s b a w h hr => seqB_ok (all := all) hg hA hQ rest s b a w h hr
    unfold wpList
    have hw : Region.wanted o (yielded all a.tmps) = true := by simp [Region.wanted, h.1]
    rw [if_pos hw]
    exact .inl (h.2 w0 a w Q _ hg hA hr fun s' b' a' w' hr' hk => ih s' b' a' w' hk hr')
theorem WB.region {A : Nat → Prop} {id : Nat} {ops : Array Oper} {s : S} {b : BO} {Q : Exit → S → BO → Prop} (h : SeqB P ρ A ops.toList s b fun s' b' => Q .normal s' b') : WB P ρ A (.region id ops false) s b Q := fun w0 a w hg hA hr =>
  wp_region_list (seqB_ok hg hA (fun s' b' a' w' h1 h2 => ⟨s', b', h1, h2⟩) ops.toList s b a w h hr)
theorem WB.loop {A : Nat → Prop} {c : Code} {s : S} {b : BO} {Q : Exit → S → BO → Prop} (I : Nat → S → BO → Prop) (n : Nat) (h0 : I n s b) (h : ∀ n s b, I n s b → WB P ρ A c s b (thnB (fun s' b' => ∃ m, m < n ∧ I m s' b') Q)) : WB P ρ A (.loop c) s b Q := fun w0 a w hg hA hr => by
  classical
  let p : Act → World → Nat → Prop := fun a w n => ∃ s b, RB ρ w0 A b s a w ∧ I n s b
  let μ : Act → World → Nat := fun a w => if hp : ∃ n, p a w n then Classical.choose (exists_least (p a w) hp) else 0
  have hμ : ∀ a w (hp : ∃ n, p a w n), p a w (μ a w) ∧ ∀ m, p a w m → μ a w ≤ m := fun a w hp => by
    have : μ a w = Classical.choose (exists_least (p a w) hp) := dif_pos hp
    rw [this]
    exact Classical.choose_spec (exists_least (p a w) hp)
  refine wp_loop (fun a w => ∃ n, p a w n) μ ⟨n, s, b, hr, h0⟩ fun a w hp => ?_
  obtain ⟨⟨s', b', hr', hi⟩, _⟩ := hμ a w hp
  refine wp_mono (h _ s' b' hi w0 a w hg hA hr') fun e a' w' ⟨s'', b'', h1, h2⟩ => ?_
  cases e with
  | normal =>
    obtain ⟨m, hm, him⟩ := h2
    have hp' : ∃ n, p a' w' n := ⟨m, s'', b'', h1, him⟩
    exact ⟨hp', Nat.lt_of_le_of_lt ((hμ a' w' hp').2 m ⟨s'', b'', h1, him⟩) hm⟩
  | _ => exact ⟨s'', b'', h1, h2⟩
theorem WB.sub {A : Nat → Prop} {c : Code} {s s' : S} {b : BO} {Q : Exit → S → BO → Prop} {bl : List (Nat × Nat)} (hs : subC (kOf b).toNat bl s' s) (h : WB P ρ A c s' b Q) : WB P ρ A c s b Q := fun w0 a w hg hA ⟨w1, wr, B, hb, hBs, hB, hS, L, F, hr⟩ =>
  h w0 a w hg hA ⟨w1, wr, B, hb, hBs, hB, hS, _, F, hr.ren (subC_ok hs) fun i hi => subC_pin hs i (hS.k ▸ hi)⟩

/-- The rest of a drawn region, one operation behind the other. -/
theorem tailB_ok {all : Array Oper} {hs : List (Nat × Hint)} {h : Nat} {A : Nat → Prop} {Q : Exit → Act → World → Prop} {w0 : World} {K : S → BO → Prop} (hg : GT P w0 wr0.m) (hA : ∀ k, A k → k < w0.heap.size) (hc : DChk hs all h) (hQ : ∀ s b a w, RB ρ w0 A b s a w → K s b → Q .normal a w) : ∀ (fuel k : Nat) (listed : Array Bool) (s : S) (b : BO) (a : Act) (w : World), h ≤ k → k ≤ all.size → listed.size = all.size →
      (∀ i, i < all.size → listed.getD i true = decide (i < k)) → all.size - k ≤ fuel → SeqB P ρ A (all.toList.drop k) s b K → RB ρ w0 A b s a w → wpAny P .any all Q fuel listed a w := by
  have none_left : ∀ (listed : Array Bool), (∀ i, i < all.size → listed.getD i true = decide (i < all.size)) → Region.ready .any all listed = [] := fun listed hl => by
    refine List.eq_nil_iff_forall_not_mem.2 fun j hj => ?_
    obtain ⟨h0, o, ho, _⟩ := mem_ready.1 hj
    have hj : j < all.size := (Array.getElem?_eq_some_iff.1 ho).1
    rw [hl j hj] at h0
    simp [hj] at h0
  intro fuel
  induction fuel with
  | zero =>
    intro k listed s b a w hk hks hsz hl hf hseq hr
    obtain rfl : k = all.size := by omega
    rw [List.drop_eq_nil_of_le (by simp)] at hseq
    exact ⟨none_left listed hl, hQ s b a w hr hseq⟩
  | succ fuel ih =>
    intro k listed s b a w hk hks hsz hl hf hseq hr
    refine ⟨fun hn => ?_, fun j hj => ?_⟩
    · have hall := ready_all rfl hc hsz hn
      have : k = all.size := by
        rcases Nat.lt_or_ge k all.size with g | g
        · have := hall k g
          rw [hl k g] at this
          simp at this
        · omega
      subst this
      rw [List.drop_eq_nil_of_le (by simp)] at hseq
      exact hQ s b a w hr hseq
    · obtain ⟨h0, o, ho, _⟩ := mem_ready.1 hj
      have hjs : j < all.size := (Array.getElem?_eq_some_iff.1 ho).1
      rw [hl j hjs] at h0
      have hkj : k ≤ j := by simpa using h0
      obtain rfl : j = k := by
        rcases Nat.eq_or_lt_of_le hkj with e | e
        · exact e.symm
        · have hw := hc.tail j (by omega) hjs
          have := ready_waits hj (j - 1) hw
          rw [← getD_ft (by omega), hl (j - 1) (by omega)] at this
          simp at this
          omega
      rw [List.drop_eq_getElem_cons (by simpa using hjs)] at hseq
      have hoe : all.toList[j]'(by simpa using hjs) = o := by
        have := (Array.getElem?_eq_some_iff.1 ho).2
        simpa using this
      rw [hoe] at hseq
      have next : ∀ s' b' a' w', SeqB P ρ A (all.toList.drop (j + 1)) s' b' K → RB ρ w0 A b' s' a' w' → wpAny P .any all Q fuel (listed.setIfInBounds j true) a' w' := fun s' b' a' w' h1 h2 =>
        ih (j + 1) _ s' b' a' w' (by omega) (by omega) (by simpa using hsz) (fun i hi => by
          by_cases e : j = i
          · subst e; simp [Array.getD_eq_getD_getElem?, hsz, hjs]
          · rw [getD_set_ne true e, hl i hi]
            have : (i < j) = (i < j + 1) := by apply propext; omega
            simp only [this]) (by omega) h1 h2
      unfold Go.wpOp
      rw [ho]
      simp only
      have hw : Region.wanted o (yielded all a.tmps) = true := by simp [Region.wanted, hseq.1]
      rw [if_pos hw]
      exact .inl (hseq.2 w0 a w Q _ hg hA hr fun s' b' a' w' hr' hk => next s' b' a' w' hk hr')
theorem RB.drew {w0 : World} {A : Nat → Prop} {b : BO} {s : S} {a : Act} {w : World} (h : RB ρ w0 A b s a w) : RB ρ w0 A b s a { w with drawn := w.drawn + 1 } := by
  obtain ⟨w1, wr, B, hb, hBs, hB, hS, L, F, hr⟩ := h
  exact ⟨w1, wr, B, hb, hBs, hB, hS, L, F, hr.drew⟩
theorem WB.drawn {A : Nat → Prop} {id : Nat} {ops : Array Oper} {s : S} {b : BO} {Q : Exit → S → BO → Prop} (hs : List (Nat × Hint)) (h : Nat) (hT : TOk P T) (hm : P.follows .mixedOrders = true) (hc : dchk hs ops h = true) {K : S → Prop} (hK : ∀ s', K s' → SeqB P ρ A (ops.toList.drop h) s' b fun s'' b'' => Q .normal s'' b'')
    (hv : vcOps P T hs ops (ops.toList.take h) s K) : WB P ρ A (.region id ops true) s b Q := fun w0 a w hg hA hr0 => by
  have hc := dchk_spec hc
  obtain ⟨w1, wr, B, hb, hBs, hB, hS, L, F, hr⟩ := hr0
  obtain ⟨vals, h1, sh, hsh, h2⟩ := head_valsL hc (fun i hi => by rw [List.getElem?_take_of_lt hi]; simp) hv h (Nat.le_refl _)
  have h2 : SeqB P ρ A (ops.toList.drop h) sh b fun s'' b'' => Q .normal s'' b'' := by
    rw [List.drop_eq_nil_of_le (by simp; omega)] at h2; exact hK _ h2
  refine wp_region_any hm (head_gen (hS.ge hg hb) hT hc h1 hsh (fun fuel listed a w hsz hun hall hf hsub =>
    tailB_ok hg hA hc (K := fun s b => Q .normal s b) (fun s b a w hr hk => ⟨s, b, hr, hk⟩) fuel h listed _ b a w (Nat.le_refl _) hc.le hsz (fun i hi => by
      by_cases g : i < h
      · simp [g, hall i g]
      · simp [g, hun i (by omega) hi]) hf h2 ⟨w1, wr, B, hb, hBs, hB, hS, hsub⟩) ops.size _ s a _ (by simp) ?_ ?_ ?_ ?_ ⟨L, F, hr.drew⟩)
  · intro i j hi hw
    have hlt := waits_lt hw
    simp [Array.getD_eq_getD_getElem?, hlt] at hi
  · intro i _ hi; simp [Array.getD_eq_getD_getElem?, hi]
  · have : ∀ (f : Nat → Bool) n, cntU f n ≤ n := fun f n => by
      induction n with
      | zero => exact Nat.le_refl _
      | succ n ih => simp only [cntU]; split <;> omega
    exact this _ _
  · refine ⟨⟨rfl, rfl⟩, rfl, fun i hi hD t ht => ?_, fun t _ => rfl⟩
    exfalso
    have hlt : i < ops.size := Nat.lt_of_lt_of_le hi hc.le
    simp [Array.getD_eq_getD_getElem?, hlt] at hD

/- ------------------------------------------------ reckoned -/
def conB (P : Program) (ρ : Ren) (A : Nat → Prop) (fw fs ft : Nat) (hs : List (Nat × Hint)) (s : S) (b : BO) (o : Oper) (K : S → BO → Prop) : Prop :=
  match o.op, b, o.dst with
  | .alloc t, none, some d => if t = ft then Chk (Nat.blt d s.m) ∧ plS A s ∧ (match look s.st 0 with | some (.box _) => True | _ => False) ∧ ∀ n, fS ((s.cut true).put (some d) (.one (.sc (.pointer (some ⟨n, 0, none⟩))))) fun s => K s (some (n, []))
      else False
  | .call { callee := .value (.func f), args := ⟨[x, y]⟩, argTypes := _ }, some (n, l), d => if f = fw then (match evO s x, evO s y with
      | some (.one (.sc (.pointer (some ⟨m, 0, none⟩)))), some (.one (.sc (.string t))) => Side (m = n) ∧ Chk (Oper.dok o s.m) ∧ plS A s ∧ Side (l.length + t.size ≤ 140737488355328) ∧ fS ((s.cut true).put d .un) fun s => K s (some (n, l ++ t.data.toList))
      | _, _ => False) else False
  | .call { callee := .value (.func f), args := ⟨[x]⟩, argTypes := _ }, some (n, l), d => if f = fs then (match evO s x with
      | some (.one (.sc (.pointer (some ⟨m, 0, none⟩)))) => Side (m = n) ∧ Chk (Oper.dok o s.m) ∧ plS A s ∧ fS ((s.cut false).put d (.one (.sc (.string ⟨l.toArray⟩)))) fun s => K s none
      | _ => False) else False
  | _, _, _ => False
/-- Is it the builder's? -/
def isB (fw fs ft : Nat) (o : Oper) : Bool := match o.op with
  | .alloc t => Nat.beq t ft
  | .call { callee := .value (.func f), args := _, argTypes := _ } => Nat.beq f fw || Nat.beq f fs
  | _ => false
def vcOB (P : Program) (T : Tab) (ρ : Ren) (A : Nat → Prop) (fw fs ft : Nat) (hs : List (Nat × Hint)) : List Oper → S → BO → (S → BO → Prop) → Prop
  | [], s, b, K => K s b
  | o :: rest, s, b, K => Chk o.guard.isNone ∧ match isB fw fs ft o with
    | true => conB P ρ A fw fs ft hs s b o fun s' b' => vcOB P T ρ A fw fs ft hs rest s' b' K
    | false => vcStep P T hs s o fun s' => vcOB P T ρ A fw fs ft hs rest s' b K

theorem conB_ok {A : Nat → Prop} {fw fs ft : Nat} {hs : List (Nat × Hint)} {s : S} {b : BO} {o : Oper} {K : S → BO → Prop} (hl : BL P ρ) (h1 : ρ.f 166 = fw) (h2 : ρ.f 169 = fs) (h3 : ρ.t 72 = ft) (h : conB P ρ A fw fs ft hs s b o K) : OpB P ρ A o s b K := by
  subst h1 h2 h3
  unfold conB at h
  split at h
  · rename_i t d ho hd
    split at h
    · rename_i e
      subst e
      obtain ⟨⟨g1⟩, g2, g4, g3⟩ := h
      split at g4
      · rename_i cs h0
        exact OpB.make hl ho hd (by simpa using g1) g2 h0 fun n => by have := g3 n; rwa [fS_eq] at this
      · exact g4.elim
    · exact h.elim
  · rename_i f x y ts n l ho
    split at h
    · rename_i e
      subst e
      split at h
      · rename_i m t hx hy
        obtain ⟨⟨rfl⟩, ⟨g1⟩, g2, ⟨g3⟩, g4⟩ := h
        rw [fS_eq] at g4
        exact OpB.write hl ho g1 hx hy g2 g3 g4
      · exact h.elim
    · exact h.elim
  · rename_i f x ts n l ho
    split at h
    · rename_i e
      subst e
      split at h
      · rename_i m hx
        obtain ⟨⟨rfl⟩, ⟨g1⟩, g2, g4⟩ := h
        rw [fS_eq] at g4
        exact OpB.text hl ho g1 hx g2 g4
      · exact h.elim
    · exact h.elim
  · exact h.elim
theorem OpB.mono {A : Nat → Prop} {o : Oper} {s : S} {b : BO} {K K' : S → BO → Prop} (h : OpB P ρ A o s b K) (hk : ∀ s b, K s b → K' s b) : OpB P ρ A o s b K' := fun w0 a w Q X hg hA hr k => h w0 a w Q X hg hA hr fun s' b' a' w' h1 h2 => k s' b' a' w' h1 (hk s' b' h2)
theorem vcOB_ok {A : Nat → Prop} {fw fs ft : Nat} {hs : List (Nat × Hint)} (hT : TOk P T) (hl : BL P ρ) (h1 : ρ.f 166 = fw) (h2 : ρ.f 169 = fs) (h3 : ρ.t 72 = ft) : ∀ (l : List Oper) (s : S) (b : BO) (K : S → BO → Prop), vcOB P T ρ A fw fs ft hs l s b K → SeqB P ρ A l s b K
  | [], s, b, K, h => h
  | o :: rest, s, b, K, h => by
    obtain ⟨⟨hg⟩, h⟩ := h
    refine ⟨by simpa using hg, ?_⟩
    split at h
    · exact (conB_ok hl h1 h2 h3 h).mono fun s' b' h' => vcOB_ok hT hl h1 h2 h3 rest s' b' K h'
    · exact OpB.of ((vcStep_ok hT h).mono fun s' h' => vcOB_ok hT hl h1 h2 h3 rest s' b K h')

def vcB (P : Program) (T : Tab) (ρ : Ren) (A : Nat → Prop) (fw fs ft : Nat) : Code → List (Nat × Hint) → S → BO → (Exit → S → BO → Prop) → Prop
  | .skip, hs, s, b, Q => Q .normal s b
  | .exit id, hs, s, b, Q => Q (.exit id) s b
  | .ret, hs, s, b, Q => Q .ret s b
  | .seq x y, hs, s, b, Q => vcB P T ρ A fw fs ft x hs s b (thnB (fun s' b' => vcB P T ρ A fw fs ft y hs s' b' Q) Q)
  | .block id c, hs, s, b, Q => vcB P T ρ A fw fs ft c hs s b (blkB id Q)
  | .cond c x y, hs, s, b, Q => match evO s c with
    | some (.one (.sc (.bool t))) => (t = true → vcB P T ρ A fw fs ft x hs s b Q) ∧ (t = false → vcB P T ρ A fw fs ft y hs s b Q)
    | _ => False
  | .region _ ops false, hs, s, b, Q => vcOB P T ρ A fw fs ft hs ops.toList s b fun s' b' => Q .normal s' b'
  | .region id ops true, hs, s, b, Q => Chk (dchk hs ops (ops.toList.takeWhile fun o => quiet (hintOf hs o.dst) o).length) ∧
      vcOps P T hs ops (ops.toList.take (ops.toList.takeWhile fun o => quiet (hintOf hs o.dst) o).length) s fun s' => vcOB P T ρ A fw fs ft hs (ops.toList.drop (ops.toList.takeWhile fun o => quiet (hintOf hs o.dst) o).length) s' b fun s'' b'' => Q .normal s'' b''
  | c, hs, s, b, Q => WB P ρ A c s b Q
theorem vcB_ok {A : Nat → Prop} {fw fs ft : Nat} (hT : TOk P T) (hm : P.follows .mixedOrders = true) (hl : BL P ρ) (h1 : ρ.f 166 = fw) (h2 : ρ.f 169 = fs) (h3 : ρ.t 72 = ft) : ∀ (c : Code) {hs : List (Nat × Hint)} (s : S) (b : BO) (Q : Exit → S → BO → Prop), vcB P T ρ A fw fs ft c hs s b Q → WB P ρ A c s b Q := by
  intro c
  induction c with
  | seq x y hx hy =>
    intro hs s b Q h
    refine WB.seq ((hx s b _ h).mono fun e s' b' h' => ?_)
    cases e <;> first | exact hy s' b' Q h' | exact h'
  | block id c hc => intro hs s b Q h; exact WB.block (hc s b _ h)
  | cond c x y hx hy =>
    intro hs s b Q h
    simp only [vcB] at h
    split at h
    · rename_i t he
      refine WB.cond he ?_
      cases t
      · exact hy s b Q (h.2 rfl)
      · exact hx s b Q (h.1 rfl)
    · exact h.elim
  | region id ops d =>
    intro hs s b Q h
    cases d
    · exact WB.region (vcOB_ok hT hl h1 h2 h3 _ _ _ _ h)
    · exact WB.drawn hs _ hT hm h.1.h (fun s' h' => vcOB_ok hT hl h1 h2 h3 _ _ _ _ h') h.2
  | skip => intro hs s b Q h; exact WB.of (W.skip h)
  | exit id => intro hs s b Q h; exact WB.of (W.exit h)
  | ret => intro hs s b Q h; exact WB.of (W.ret h)
  | _ => intro hs s b Q h; exact h

/-- A loop whose head's states are a family. -/
theorem WB.loopC {A : Nat → Prop} {fw fs ft : Nat} {D : Type} (hs : D → List (Nat × Hint)) (hT : TOk P T) (hm : P.follows .mixedOrders = true) (hl : BL P ρ) (h1 : ρ.f 166 = fw) (h2 : ρ.f 169 = fs) (h3 : ρ.t 72 = ft) {c : Code} {s : S} {b0 : BO} {Q : Exit → S → BO → Prop} (st : D → S) (bo : D → BO) (μ : D → Nat) (inv : D → Prop) (d0 : D) (bl : List (Nat × Nat)) (h0 : inv d0 ∧ Side (bo d0 = b0)) (hk : ∀ d, kOf (bo d) = true) (hsub : subC 1 bl (st d0) s)
    (h : ∀ d, inv d → vcB P T ρ A fw fs ft c (hs d) (st d) (bo d) (thnB (fun s' b' => ∃ (d' : D) (bl : List (Nat × Nat)), μ d' < μ d ∧ (inv d' ∧ Side (bo d' = b')) ∧ subC 1 bl (st d') s') Q)) : WB P ρ A (.loop c) s b0 Q := by
  refine WB.loop (fun n s' b' => ∃ d bl, n = μ d ∧ inv d ∧ bo d = b' ∧ subC 1 bl (st d) s') (μ d0) ⟨d0, bl, rfl, h0.1, h0.2.h, hsub⟩ fun n s' b' ⟨d, bl, hn, hi, hb, hsb⟩ => ?_
  subst hb
  refine WB.sub (by rw [hk d]; exact hsb) ((vcB_ok hT hm hl h1 h2 h3 _ _ _ _ (h d hi)).mono fun e s'' b'' hq => ?_)
  cases e with
  | normal =>
    obtain ⟨d', bl', h1, ⟨h2, h4⟩, h3⟩ := hq
    exact ⟨μ d', hn ▸ h1, d', bl', rfl, h2, h4.h, h3⟩
  | _ => exact hq

/- ------------------------------------------------ a function -/
/-- The arguments, told with where they lie. -/
def tellC (A : Nat → Prop) (u : Value) : MC → MC
  | .ag rows => .tr false A u rows
  | c => c
def tellL (A : Nat → Prop) (U : Nat → Value) (i : Nat) : List MC → List MC
  | [] => []
  | c :: cs => tellC A (U i) c :: tellL A U (i + 1) cs
def tellV (A : Nat → Prop) (U : Nat → Value) : MV → MV
  | .one c => .one (tellC A (U 0) c)
  | .agg cs => .agg (tellL A U 0 cs)
  | v => v
def tellE (A : Nat → Prop) (U : Nat → Nat → Value) : List (Nat × MV) → List (Nat × MV)
  | [] => []
  | (t, v) :: l => (t, tellV A (U t) v) :: tellE A U l
theorem look_tellE (A : Nat → Prop) (U : Nat → Nat → Value) (t : Nat) : ∀ l : List (Nat × MV), look (tellE A U l) t = (look l t).map (tellV A (U t))
  | [] => rfl
  | (k, v) :: l => by
    simp only [tellE, look_cons]
    split
    · rename_i e; subst e; rfl
    · exact look_tellE A U t l
theorem tellL_get (A : Nat → Prop) (U : Nat → Value) : ∀ (cs : List MC) (i j : Nat), (tellL A U i cs)[j]? = (cs[j]?).map (tellC A (U (i + j)))
  | [], i, j => by simp [tellL]
  | c :: cs, i, 0 => by simp [tellL]
  | c :: cs, i, j + 1 => by
    simp only [tellL, List.getElem?_cons_succ, tellL_get A U cs (i + 1) j]
    rw [show i + 1 + j = i + (j + 1) by omega]
theorem tellL_len (A : Nat → Prop) (U : Nat → Value) : ∀ (cs : List MC) (i : Nat), (tellL A U i cs).length = cs.length
  | [], i => rfl
  | c :: cs, i => by simp [tellL, tellL_len A U cs (i + 1)]
theorem RC.tellA {st : Sto} {L : Lay} {w : World} {F : FF} {A : Nat → Prop} (hF : ∀ b, F.all b ↔ A b) {c : MC} {v : Value} (h : RC st L w F c v) : RC st L w F (tellC A v c) v := by
  cases c with
  | ag rows => exact ⟨rfl, fun b hb => ⟨(hF b).2 hb, fun ho => by cases ho⟩, RF.mono (fun _ _ => rfl) (fun b hb => (hF b).1 hb) h⟩
  | _ => exact h
def uOf (v : Value) (j : Nat) : Value := match v with
  | .agg arr => arr.getD j undef
  | v => v
theorem RV.tellA {st : Sto} {L : Lay} {w : World} {F : FF} {A : Nat → Prop} (hF : ∀ b, F.all b ↔ A b) {x : MV} {v : Value} (h : RV st L w F x v) : RV st L w F (tellV A (uOf v) x) v := by
  cases x with
  | one c =>
    have h : RC st L w F c v := h
    cases c with
    | ag rows =>
      have hv : uOf v 0 = v := by
        obtain ⟨a, cap, rfl, _⟩ := RF.fz_inv (show RF w F.all (.fz rows) v from h)
        rfl
      show RC st L w F (tellC A (uOf v 0) (.ag rows)) v
      rw [hv]
      exact h.tellA hF
    | _ => exact h
  | agg cs =>
    obtain ⟨arr, rfl, h1, h2⟩ := h
    refine ⟨arr, rfl, by rw [tellL_len]; exact h1, fun j c hj => ?_⟩
    rw [tellL_get] at hj
    obtain ⟨d, hd, rfl⟩ := Option.map_eq_some_iff.1 hj
    obtain ⟨u, hu, hr⟩ := h2 j d hd
    have : uOf (.agg arr) (0 + j) = u := by
      rw [Nat.zero_add]; simp [uOf, hu]
    rw [this]
    exact ⟨u, hu, hr.tellA hF⟩
  | _ => exact h
theorem tellC_bd {A : Nat → Prop} {u : Value} {c : MC} {n : Nat} (h : c.bd n) : (tellC A u c).bd n := by cases c <;> exact h
theorem tellV_bd {A : Nat → Prop} {U : Nat → Value} {x : MV} {n : Nat} (h : x.bd n) : (tellV A U x).bd n := by
  cases x with
  | one c => exact tellC_bd (c := c) h
  | agg cs =>
    intro c hc
    obtain ⟨j, hj⟩ := List.getElem?_of_mem hc
    rw [tellL_get] at hj
    obtain ⟨d, hd, rfl⟩ := Option.map_eq_some_iff.1 hj
    exact tellC_bd (h d (List.mem_of_getElem? hd))
  | _ => exact h
def S.tell (A : Nat → Prop) (U : Nat → Nat → Value) (s : S) : S := ⟨s.m, s.n, tellE A U s.env, s.st⟩
def endB (T : Tab) (fn : Func) (r : MV) (e : Exit) (s : S) (b : BO) : Prop := (match b with
  | none => True
  | some _ => False) ∧ endE T false fn r e s

/-- A FUNCTION's CONTRACT, out of its reckoning with a builder. -/
theorem Pure.vcB {f : Nat} {fn : Func} {c : Code} {args : List MV} {r : MV} {fw fs ft : Nat} (hs : List (Nat × Hint)) (hT : TOk P T) (hm : P.follows .mixedOrders = true) (hl : BL P ρ) (h1 : ρ.f 166 = fw) (h2 : ρ.f 169 = fs) (h3 : ρ.t 72 = ft)
    (hf : P.funcs[f]? = some fn) (hn : (fn.name == "runtime.NumGoroutine") = false) (hb : fn.body = some c) (hla : Nat.ble args.length fn.ntmps = true)
    (h : ∀ (A : Nat → Prop) (U : Nat → Nat → Value), fS ((S.start fn.ntmps args).tell A U) fun s => vcB P T ρ A fw fs ft c hs s none (endB T fn r)) : Pure P false f args r := by
  refine ⟨⟨fn, hf, hn, by rw [hb]; rfl⟩, ?_⟩
  intro w A vals hsz hv hA hgt
  obtain ⟨L, F, hr⟩ := start_rel (m := fn.ntmps) hsz (Nat.le_of_ble_eq_true hla) hv hA
  have hF : ∀ b, F.all b ↔ A b := fun b => by
    rw [← hr.fa]
    refine ⟨fun h => h.resolve_left fun h => ?_, .inr⟩
    have h4 := hr.fsz b (.inl h)
    rcases hr.fn b h with h5 | h5 | h5
    · omega
    · exact h5
    · exact h5
  generalize ha : ({ tmps := vals ++ Array.replicate (fn.ntmps - vals.size) undef, defers := [] } : Act) = a at hr
  have hr' : Rl w wr0 A L F ((S.start fn.ntmps args).tell A fun t => uOf (a.tmps.getD t undef)) a w := by
    refine ⟨hr.os, hr.tape, hr.output, hr.size, hr.keep, hr.kc, hr.pin, hr.fa, hr.fn, hr.fsz, hr.ob, hr.own, hr.inj, hr.sz, fun t v hv => ?_, hr.bst, fun t v hv => ?_, hr.df⟩
    · simp only [S.tell, look_tellE] at hv
      obtain ⟨u, hu, rfl⟩ := Option.map_eq_some_iff.1 hv
      exact (hr.env t u hu).tellA hF
    · simp only [S.tell, look_tellE] at hv
      obtain ⟨u, hu, rfl⟩ := Option.map_eq_some_iff.1 hv
      exact tellV_bd (hr.ben t u hu)
  have h := h A fun t => uOf (a.tmps.getD t undef)
  rw [fS_eq] at h
  have hwb := vcB_ok hT hm hl h1 h2 h3 c _ _ _ h
  refine calls_of_wp hf hb ?_
  rw [ha]
  refine wp_mono (hwb w a w hgt hA ⟨w, wr0, w.heap.size, Below.refl _ _, ⟨Nat.le_refl _, Nat.le_refl _⟩, trivial, stB0 _ _, L, F, hr'⟩) fun e a w' ⟨s, b, ⟨w1, wr, B, hb1, hBs, hB, hS, L, F, hr⟩, hend⟩ => ?_
  obtain ⟨hbn, hend⟩ := hend
  cases b with
  | some q => exact hbn.elim
  | none =>
  obtain rfl := hS.z rfl
  have key : Ends T false fn r s → a.defers = [] ∧ ∃ v, (results fn a.tmps).run P w' = .ok v w' ∧ ∃ (v' : Value) (F : Nat → Prop) (bs : List Nat), Ending.returned v = .returned v' ∧ Below w.heap.size w w' ∧
      (∀ b, F b → b < w'.heap.size ∧ (w.heap.size ≤ b ∨ (false = true ∧ A b))) ∧ OV w' F r v' bs ∧ bs.Nodup ∧ ∀ b ∈ bs, w.heap.size ≤ b ∧ b < w'.heap.size ∧ ¬ F b := fun he => by
    obtain ⟨v, hres, G, bs, g1, g2, g3, g4, g5⟩ := ends_ok hT hr (fun b hb => Nat.lt_of_lt_of_le (hA b hb) hb1.size) he
    exact ⟨hr.df, v, hres, v, G, bs, rfl, hb1.trans (g1.mono hb1.size), fun b hb => ⟨(g2 b hb).1, (g2 b hb).2.imp (Nat.le_trans hb1.size) id⟩, g3, g4, fun b hb => ⟨Nat.le_trans hb1.size (g5 b hb).1, (g5 b hb).2⟩⟩
  cases e <;> first | exact key (endF_ok hend) | exact hend.elim

end Mg

/- The abstract state logic, part 45: decimals by the library. No condition. -/
namespace Mg
open Go Go.RowKit Go.Shelf Go.Proofs
set_option linter.unusedVariables false
variable {P : Program} {ρ : Ren}
theorem below_grow (w : World) (k : Nat) (os : Array Obj) : Below w.heap.size w (Sort.grow (w.drewN k) os) := by
  refine ⟨rfl, rfl, rfl, ?_, fun j hj => ?_⟩
  · show w.heap.size ≤ (w.heap ++ os).size
    simp
  · show (w.heap ++ os)[j]? = w.heap[j]?
    rw [Array.getElem?_append_left hj]
theorem Pure.ofItoa (L : LaysM.n243 P ρ) (hg : (P.globalNamed tabN).isSome = true) (n : Int) (h0 : -9223372036854775808 ≤ n) (h1 : n ≤ 9223372036854775807) : Pure P false (ρ.f 243) [.one (.sc (.int .i64 n))] (.one (.sc (.string ⟨(Lib.itoa n).toArray⟩))) := by
  refine ⟨⟨_, L.f243, by kernel_rfl, by kernel_rfl⟩, fun w A vals hs hv hA hgt => ?_⟩
  obtain ⟨v, hv0, hf⟩ := hv 0 _ rfl
  have hf : RF w A (.sc (.int .i64 n)) v := hf
  cases hf with
  | sc _ _ =>
  obtain rfl : vals = #[.int .i64 n] := by
    apply Array.ext (by simpa using hs)
    intro i h1 h2
    obtain rfl : i = 0 := by simp at h2; omega
    have := (Array.getElem?_eq_some_iff.1 hv0).2
    simpa using this
  refine (Any.internal_strconv_Itoa L n h0 h1 w (hgt.tab hg)).mono fun e w' ⟨he, k, os, hw⟩ => ?_
  refine ⟨.string ⟨(Lib.itoa n).toArray⟩, fun _ => False, [], he, ?_, fun b hb => hb.elim, .fz (.sc _ rfl) .nil, List.nodup_nil, fun b hb => by simp at hb⟩
  subst hw
  exact below_grow w k os
end Mg

/- The abstract state logic, part 47: ways that meet again. No condition. -/
namespace Mg
open Go Go.RowKit
set_option linter.unusedVariables false
variable {P : Program} {T : Tab}
/-- Behind the first piece all ways go on from one family of states. -/
theorem W.cut {k : Nat} {D : Type} (hs : List (Nat × Hint)) (hT : TOk P T) (hm : P.follows .mixedOrders = true) {x y : Code} {s : S} {Q : Exit → S → Prop} (st : D → S) (inv : D → Prop)
    (h1 : vc k P T x hs s (thn (fun s' => ∃ (d : D) (bl : List (Nat × Nat)), inv d ∧ subC k bl (st d) s') Q)) (h2 : ∀ d, inv d → W k P y (st d) Q) : W k P (.seq x y) s Q := by
  refine W.seq fun K hK => ?_
  refine (vc_ok hT hm x s _ h1).mono fun e s' h => ?_
  cases e with
  | normal =>
    obtain ⟨d, bl, hd, hsb⟩ := h
    exact hK s' (W.ren (subC_ok hsb) (subC_pin hsb) (h2 d hd))
  | _ => exact h
/-- The same behind the first two pieces. -/
theorem W.cut2 {k : Nat} {D : Type} (hs : List (Nat × Hint)) (hT : TOk P T) (hm : P.follows .mixedOrders = true) {x y z : Code} {s : S} {Q : Exit → S → Prop} (st : D → S) (inv : D → Prop)
    (h1 : vc k P T x hs s (thn (fun s1 => vc k P T y hs s1 (thn (fun s' => ∃ (d : D) (bl : List (Nat × Nat)), inv d ∧ subC k bl (st d) s') Q)) Q)) (h2 : ∀ d, inv d → W k P z (st d) Q) : W k P (.seq x (.seq y z)) s Q := by
  refine W.seq fun K hK => ?_
  refine (vc_ok hT hm x s _ h1).mono fun e s' h => ?_
  cases e with
  | normal => exact hK s' (W.cut hs hT hm st inv h h2)
  | _ => exact h
end Mg

/- The abstract state logic, part 35: a live list that is written no more, in the middle of code. No condition. -/
namespace Mg
open Go Go.RowKit
set_option linter.unusedVariables false
variable {P : Program} {T : Tab}

def frzW (s : S) (fs : List Nat) : MV → MV
  | .tup vs => .tup vs
  | .un => .un
  | v => frzV s fs v
/-- The state where object id is written no more. -/
def S.frz (s : S) (id : Nat) : S := ⟨s.m, s.n, s.env.map fun q => (q.1, frzW s [id] q.2), delL s.st [id]⟩
theorem frzC_bd {s : S} {fs : List Nat} {c : MC} {n : Nat} (h : c.bd n) : (frzC s fs c).bd n := by
  cases c <;> simp only [frzC] <;> first | exact h | trivial | (split <;> first | exact h | trivial)
theorem frzW_bd {s : S} {fs : List Nat} {v : MV} {n : Nat} (h : v.bd n) : (frzW s fs v).bd n := by
  cases v with
  | un => trivial
  | one c => exact frzC_bd (c := c) h
  | agg cs =>
    intro c hc
    obtain ⟨d, hd, rfl⟩ := List.mem_map.1 hc
    exact frzC_bd (h d hd)
  | tup vs => exact h
theorem look_map2 {α β : Type} (f : α → β) : ∀ (l : List (Nat × α)) (t : Nat), look (l.map fun q => (q.1, f q.2)) t = (look l t).map f
  | [], t => rfl
  | (k, v) :: l, t => by
    rw [List.map_cons, look_cons, look_cons, look_map2 f l t]
    split <;> rfl
theorem W.frz {k : Nat} {c : Code} {s : S} {Q : Exit → S → Prop} (id : Nat) {rows : List (List MC)} (hid : look s.st id = some (.arr rows)) (hall : AllF rows) (h : fS (s.frz id) fun s' => W k P c s' Q) : W k P c s Q := fun w0 wr A a w hk ⟨L, F, hr⟩ => by
  rw [fS_eq] at h
  obtain ⟨F2, hR2, hle, hrc, hout, hfz⟩ := frz_all [id] hr (by simp) (fun i hi => by
    obtain rfl : i = id := by simpa using hi
    exact ⟨rows, hid, hall⟩)
  refine h w0 wr A a w hk ⟨L, F2, ?_⟩
  refine ⟨hR2.os, hR2.tape, hR2.output, hR2.size, hR2.keep, hR2.kc, hR2.pin, hR2.fa, hR2.fn, hR2.fsz, hR2.ob, hR2.own, hR2.inj, hR2.sz, ?_, hR2.bst, ?_, hR2.df⟩
  · intro t v hv
    simp only [S.frz] at hv
    rw [look_map2] at hv
    obtain ⟨x, hx, rfl⟩ := Option.map_eq_some_iff.1 hv
    have h1 := hr.env t x hx
    have h2 := hR2.env t x hx
    cases x with
    | un => trivial
    | one c => exact frzV_ok (x := .one c) hrc hfz rfl h1
    | agg cs => exact frzV_ok (x := .agg cs) hrc hfz rfl h1
    | tup vs => exact h2
  · intro t v hv
    simp only [S.frz] at hv
    rw [look_map2] at hv
    obtain ⟨x, hx, rfl⟩ := Option.map_eq_some_iff.1 hv
    exact frzW_bd (hr.ben t x hx)
/-- Nothing, in a box, read as an empty list. -/
theorem Rl.nfb {w0 : World} {wr : Wr} {A : Nat → Prop} {L : Lay} {F : FF} {s : S} {a : Act} {w : World} (h : Rl w0 wr A L F s a w) {id : Nat} {cs : List MC} (hid : look s.st id = some (.box cs)) :
    Rl w0 wr A L F (s.set id (.box (cs.map MC.nf))) a w := by
  have hi : ∀ x : MC, ∀ u, RC (look s.st) L w F x u → RC (look (s.set id (.box (cs.map MC.nf))).st) L w F x u := fun x u hr =>
    RC.set hid (o' := .box (cs.map MC.nf)) trivial (fun _ _ => rfl) (fun _ _ _ _ _ _ hj => hj) hr
  refine ⟨h.os, h.tape, h.output, h.size, h.keep, h.kc, h.pin, h.fa, h.fn, h.fsz, ?_, ?_, ?_, h.sz, ?_, ?_, h.ben, h.df⟩
  · intro i x hx
    by_cases e : i = id
    · subst e
      have : x = .box (cs.map MC.nf) := by simpa [S.set, look_upd, hid] using hx.symm
      subst this
      obtain ⟨b, t, h1, h2, h4⟩ := h.ob i _ hid
      refine ⟨b, t, h1, h2, fun j x hj => ?_⟩
      rw [List.getElem?_map] at hj
      obtain ⟨x0, hx0, rfl⟩ := Option.map_eq_some_iff.1 hj
      obtain ⟨u, hu, hru⟩ := h4 j x0 hx0
      exact ⟨u, hu, (hi x0 u hru).nf⟩
    · rw [look_set_ne e] at hx
      exact (h.ob i x hx).imp (h.bst i x hx).2 rfl (fun k t' hk => rfl) (fun x _ u hr => hi x u hr)
  · intro i k t' h1 h2
    rw [look_set_some hid] at h1
    exact h.own i k t' h1 h2
  · intro i j k t1 t2 h1 h2 h3 h4
    rw [look_set_some hid] at h1 h2
    exact h.inj i j k t1 t2 h1 h2 h3 h4
  · intro t' v hv
    exact (h.env t' v hv).imp (h.ben t' v hv) (fun x _ u hr => hi x u hr)
  · intro i x hx
    by_cases e : i = id
    · subst e
      have : x = .box (cs.map MC.nf) := by simpa [S.set, look_upd, hid] using hx.symm
      subst this
      have hb := h.bst i _ hid
      refine ⟨hb.1, ?_⟩
      have h2 : ∀ c ∈ cs, c.bd s.n := hb.2
      show ∀ c ∈ cs.map MC.nf, c.bd s.n
      intro c hc
      obtain ⟨c0, hc0, rfl⟩ := List.mem_map.1 hc
      exact MC.nf_bd (h2 c0 hc0)
    · rw [look_set_ne e] at hx
      exact h.bst i x hx
def S.nfb (s : S) (id : Nat) : Option S := match look s.st id with
  | some (.box cs) => some (s.set id (.box (cs.map MC.nf)))
  | _ => none
theorem W.nfb {k : Nat} {c : Code} {s s' : S} {Q : Exit → S → Prop} (id : Nat) (hs : s.nfb id = some s') (h : fS s' fun s' => W k P c s' Q) : W k P c s Q := fun w0 wr A a w hk ⟨L, F, hr⟩ => by
  rw [fS_eq] at h
  unfold S.nfb at hs
  split at hs
  · rename_i cs hlk
    obtain rfl := Option.some.inj hs
    exact h w0 wr A a w hk ⟨L, F, hr.nfb hlk⟩
  · cases hs
end Mg

/- The abstract state logic, part 33: a law whose contract speaks of no objects, for its row. No condition. -/
namespace Mg
open Go Go.RowKit
set_option linter.unusedVariables false

variable {P : Program}

theorem FV.rvn {w : World} {A : Nat → Prop} {L : Lay} {x : MV} {v : Value} (h : FV w A x v) : RV (nth []) L w ⟨A, A⟩ x v ∧ x.bd ([] : List Ob).length := by
  cases x with
  | one c => exact ⟨RC.of_RF h, MC.bd_frz (RF.frz h)⟩
  | agg cs =>
    obtain ⟨arr, rfl, h1, h2⟩ := h
    refine ⟨⟨arr, rfl, h1, fun j c hj => ?_⟩, fun c hc => ?_⟩
    · obtain ⟨u, hu, hr⟩ := h2 j c hj
      exact ⟨u, hu, RC.of_RF hr⟩
    · obtain ⟨j, hj⟩ := List.getElem?_of_mem hc
      obtain ⟨u, _, hr⟩ := h2 j c hj
      exact MC.bd_frz (RF.frz hr)
  | un => exact h.elim
  | tup _ => exact h.elim

theorem Con.row {f : Nat} {args : List MV} {u : Value} {D : Type} {p : D → Prop} (h : Con P f args [] 0 p (fun _ => .one (.sc u)) (fun _ => [])) (w : World) (A : Nat → Prop) (vals : Array Value) (hs : vals.size = args.length)
    (hv : ∀ (j : Nat) (x : MV), args[j]? = some x → ∃ v : Value, vals[j]? = some v ∧ FV w A x v) (hA : ∀ b, A b → b < w.heap.size) (hgt : GT P w fun _ => False) :
    Calls P f vals w fun e w' => e = .returned u ∧ Below w.heap.size w w' := by
  refine (h.2 w A A (fun _ => none) vals hs hA (fun _ h => h) ⟨fun i o ho => by simp at ho, fun i j b t u hi => absurd hi (Nat.not_lt_zero _), fun i b t hi => absurd hi (Nat.not_lt_zero _), fun o ho => by cases ho⟩ (fun j x hj => ?_) (hgt.move (Nat.le_refl _) fun g h1 h2 => ⟨rfl, fun ⟨i, t, hi, _⟩ => absurd hi (Nat.not_lt_zero _)⟩)).mono fun e w' ⟨d, v, L', F, he, _, hp⟩ => ?_
  · obtain ⟨v, h1, h2⟩ := hv j x hj
    exact ⟨v, h1, FV.rvn h2⟩
  · have hr : RV (nth []) L' w' ⟨F, A⟩ (.one (.sc u)) v := hp.rv
    obtain ⟨rfl, _⟩ : v = u ∧ u.oneCell' = true := hr
    exact ⟨he, hp.os, hp.tape, hp.output, hp.size, fun b hb => hp.keep b hb fun i t hi => absurd hi (Nat.not_lt_zero _)⟩
end Mg

/- The abstract state logic, part 23: data out of what was read. No condition. -/
namespace Mg
open Go Go.RowKit
set_option linter.unusedVariables false

variable {T : Tab} {n t : Nat} {cs : List MC} {i : TI}

theorem fit_int {k : IntKind} (h : fit T n t cs) (ht : T t = some i) (hk : i.k = .int k) : ∃ m, cs = [.sc (.int k m)] ∧ k.min ≤ m ∧ m ≤ k.max := by
  cases n with
  | zero => exact h.elim
  | succ n => simpa only [fit, ht, hk] using h
theorem fit_bool (h : fit T n t cs) (ht : T t = some i) (hk : i.k = .bool) : ∃ b, cs = [.sc (.bool b)] := by
  cases n with
  | zero => exact h.elim
  | succ n => simpa only [fit, ht, hk] using h
theorem fit_str (h : fit T n t cs) (ht : T t = some i) (hk : i.k = .str) : ∃ s : ByteArray, cs = [.sc (.string s)] ∧ s.size ≤ maxLen := by
  cases n with
  | zero => exact h.elim
  | succ n => simpa only [fit, ht, hk] using h
theorem fit_slice {e : Nat} (h : fit T n t cs) (ht : T t = some i) (hk : i.k = .slice e) : ∃ rows, cs = [.fz rows] ∧ rows.length ≤ maxLen ∧ ∀ r ∈ rows, ∃ n, fit T n e r := by
  cases n with
  | zero => exact h.elim
  | succ n =>
    simp only [fit, ht, hk] at h
    obtain ⟨rows, h1, h2, h3⟩ := h
    exact ⟨rows, h1, h2, fun r hr => ⟨n, h3 r hr⟩⟩
theorem fit_struct {l : List (Nat × Nat)} (h : fit T n t cs) (ht : T t = some i) (hk : i.k = .struct l) : ∃ n, fitL (fit T n) (l.map (·.2)) cs := by
  cases n with
  | zero => exact h.elim
  | succ n => exact ⟨n, by simpa only [fit, ht, hk] using h⟩
theorem fit_arr {m e : Nat} (h : fit T n t cs) (ht : T t = some i) (hk : i.k = .arr m e) : ∃ n, fitL (fit T n) (List.replicate m e) cs := by
  cases n with
  | zero => exact h.elim
  | succ n => exact ⟨n, by simpa only [fit, ht, hk] using h⟩
theorem rows_data {α : Type} {c : α → List MC} {p : α → Prop} : ∀ {rows : List (List MC)}, (∀ r ∈ rows, ∃ x, r = c x ∧ p x) → ∃ xs : List α, rows = xs.map c ∧ ∀ x ∈ xs, p x
  | [], _ => ⟨[], rfl, fun x hx => by cases hx⟩
  | r :: rs, h => by
    obtain ⟨x, hx, hp⟩ := h r List.mem_cons_self
    obtain ⟨xs, hxs, hps⟩ := rows_data fun r hr => h r (List.mem_cons_of_mem _ hr)
    exact ⟨x :: xs, by simp [hx, hxs], fun y hy => by
      rcases List.mem_cons.1 hy with rfl | hy
      · exact hp
      · exact hps y hy⟩

/-- A result that is one scalar. -/
theorem OV_sc {w : World} {F : Nat → Prop} {u v : Value} {bs : List Nat} (h : OV w F (.one (.sc u)) v bs) : v = u := by
  have h : OC w F [.sc u] [v] bs := h
  cases h with
  | fz h _ => cases h; rfl

end Mg
