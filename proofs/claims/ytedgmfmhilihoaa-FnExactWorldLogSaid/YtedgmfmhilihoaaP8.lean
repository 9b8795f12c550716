/- Parts of the abstract state logic and of the walks, one behind the other: Mg37, Mg38, Mg16. No condition. -/
import Derived.Test.YtedgmfmhilihoaaP4
import Derived.Test.YtedgmfmhilihoaaP7
import Derived.Test.YtedgmfmhilihoaaP6
/- The abstract state logic, part 37: trees of one's own: calls that make them, and calls whose results are kept apart. No condition. -/
namespace Mg
open Go Go.RowKit
set_option linter.unusedVariables false

variable {P : Program} {T : Tab}

/-- A side condition. -/
structure Side (p : Prop) : Prop where
  h : p

abbrev Bk := Nat → Prop
/-- A slice's blocks, and the slice. -/
structure Tk where
  B : Bk
  u : Value
/-- A slice, said to lie in the blocks B. -/
def labc (o : Bool) (t : Tk) : MC → MC
  | .fz rows => .tr o t.B t.u rows
  | c => c
def labRow (o : Bool) (B : Nat → Tk) : Nat → List MC → List MC
  | _, [] => []
  | j, c :: cs => labc o (B j) c :: labRow o B (j + 1) cs
def labR (o : Bool) (B : Nat → Nat → Tk) : Nat → List (List MC) → List (List MC)
  | _, [] => []
  | i, r :: rs => labRow o (B i) 0 r :: labR o B (i + 1) rs
def lab1 (o : Bool) (B : Nat → Tk) : MV → MV
  | .one c => .one (labc o (B 0) c)
  | .agg cs => .agg (labRow o B 0 cs)
  | v => v
def labT (o : Bool) (B : Nat → Nat → Tk) : Nat → List MV → List MV
  | _, [] => []
  | i, v :: vs => lab1 o (B i) v :: labT o B (i + 1) vs
def lab (o : Bool) (B : Nat → Nat → Tk) : MV → MV
  | .tup vs => .tup (labT o B 0 vs)
  | v => lab1 o (B 0) v

theorem labRow_get (o : Bool) (B : Nat → Tk) : ∀ (cs : List MC) (k j : Nat), (labRow o B k cs)[j]? = (cs[j]?).map (labc o (B (k + j)))
  | [], k, j => by simp [labRow]
  | c :: cs, k, 0 => by simp [labRow]
  | c :: cs, k, j + 1 => by
    have := labRow_get o B cs (k + 1) j
    simp only [labRow, List.getElem?_cons_succ, this]
    rw [show k + 1 + j = k + (j + 1) by omega]
theorem labR_get (o : Bool) (B : Nat → Nat → Tk) : ∀ (rs : List (List MC)) (k i : Nat), (labR o B k rs)[i]? = (rs[i]?).map (labRow o (B (k + i)) 0)
  | [], k, i => by simp [labR]
  | c :: cs, k, 0 => by simp [labR]
  | c :: cs, k, i + 1 => by
    have := labR_get o B cs (k + 1) i
    simp only [labR, List.getElem?_cons_succ, this]
    rw [show k + 1 + i = k + (i + 1) by omega]
theorem labT_get (o : Bool) (B : Nat → Nat → Tk) : ∀ (rs : List MV) (k i : Nat), (labT o B k rs)[i]? = (rs[i]?).map (lab1 o (B (k + i)))
  | [], k, i => by simp [labT]
  | c :: cs, k, 0 => by simp [labT]
  | c :: cs, k, i + 1 => by
    have := labT_get o B cs (k + 1) i
    simp only [labT, List.getElem?_cons_succ, this]
    rw [show k + 1 + i = k + (i + 1) by omega]
theorem labRow_len (o : Bool) (B : Nat → Tk) : ∀ (cs : List MC) (k : Nat), (labRow o B k cs).length = cs.length
  | [], k => rfl
  | c :: cs, k => by simp [labRow, labRow_len o B cs]
theorem labR_len (o : Bool) (B : Nat → Nat → Tk) : ∀ (cs : List (List MC)) (k : Nat), (labR o B k cs).length = cs.length
  | [], k => rfl
  | c :: cs, k => by simp [labR, labR_len o B cs]
theorem labT_len (o : Bool) (B : Nat → Nat → Tk) : ∀ (cs : List MV) (k : Nat), (labT o B k cs).length = cs.length
  | [], k => rfl
  | c :: cs, k => by simp [labT, labT_len o B cs]

/-- A value that is read by scalars and by what lies in blocks that are told. -/
def RT (w : World) : MC → Value → Prop
  | .sc u, v => v = u ∧ u.oneCell' = true
  | .tr o B u rows, v => v = u ∧ TrR w o B rows v
  | _, _ => False
def RT1 (w : World) : MV → Value → Prop
  | .one c, v => RT w c v
  | .agg cs, v => ∃ arr : Array Value, v = .agg arr ∧ arr.size = cs.length ∧ ∀ (j : Nat) (c : MC), cs[j]? = some c → ∃ u : Value, arr[j]? = some u ∧ RT w c u
  | _, _ => False
def RTV (w : World) : MV → Value → Prop
  | .tup vs, v => ∃ arr : Array Value, v = .tuple arr ∧ arr.size = vs.length ∧ ∀ (j : Nat) (x : MV), vs[j]? = some x → ∃ u : Value, arr[j]? = some u ∧ RT1 w x u
  | x, v => RT1 w x v

/-- The sets of a value. -/
def inC (b : Nat) : MC → Prop
  | .tr _ B _ _ => B b
  | _ => False
def in1 (b : Nat) : MV → Prop
  | .one c => inC b c
  | .agg cs => ∃ c ∈ cs, inC b c
  | _ => False
def inV (b : Nat) : MV → Prop
  | .tup vs => ∃ v ∈ vs, in1 b v
  | v => in1 b v

theorem RT.rc {w : World} {st : Sto} {L : Lay} {F : FF} {c : MC} {v : Value} (h : RT w c v) (hF : ∀ b, inC b c → F.n b ∧ ¬ F.a b) : RC st L w F c v := by
  cases c <;> first | exact h.elim | skip
  · exact h
  · exact ⟨h.1, fun b hb => ⟨.inl (hF b hb).1, fun _ => hF b hb⟩, h.2⟩
theorem RT.bd {w : World} {c : MC} {v : Value} {n : Nat} (h : RT w c v) : c.bd n := by cases c <;> first | exact h.elim | trivial
theorem RT1.rv {w : World} {st : Sto} {L : Lay} {F : FF} {x : MV} {v : Value} (h : RT1 w x v) (hF : ∀ b, in1 b x → F.n b ∧ ¬ F.a b) : RV1 st L w F x v := by
  cases x with
  | one c => exact RT.rc h hF
  | agg cs =>
    obtain ⟨arr, rfl, h1, h2⟩ := h
    exact ⟨arr, rfl, h1, fun j c hj => by
      obtain ⟨u, hu, hr⟩ := h2 j c hj
      exact ⟨u, hu, hr.rc fun b hb => hF b ⟨c, List.mem_of_getElem? hj, hb⟩⟩⟩
  | un => exact h.elim
  | tup _ => exact h.elim
theorem RT1.bd {w : World} {x : MV} {v : Value} {n : Nat} (h : RT1 w x v) : x.bd1 n := by
  cases x with
  | one c => exact RT.bd h
  | agg cs =>
    obtain ⟨arr, rfl, h1, h2⟩ := h
    intro c hc
    obtain ⟨j, hj⟩ := List.getElem?_of_mem hc
    obtain ⟨u, _, hr⟩ := h2 j c hj
    exact hr.bd
  | un => exact h.elim
  | tup _ => exact h.elim
theorem RTV.rv {w : World} {st : Sto} {L : Lay} {F : FF} {x : MV} {v : Value} (h : RTV w x v) (hF : ∀ b, inV b x → F.n b ∧ ¬ F.a b) : RV st L w F x v := by
  cases x with
  | one c => exact RT1.rv (x := .one c) h hF
  | agg cs => exact RT1.rv (x := .agg cs) h hF
  | un => exact h.elim
  | tup vs =>
    obtain ⟨arr, rfl, h1, h2⟩ := h
    exact ⟨arr, rfl, h1, fun j c hj => by
      obtain ⟨u, hu, hr⟩ := h2 j c hj
      exact ⟨u, hu, hr.rv fun b hb => hF b ⟨c, List.mem_of_getElem? hj, hb⟩⟩⟩
theorem RTV.bd {w : World} {x : MV} {v : Value} {n : Nat} (h : RTV w x v) : x.bd n := by
  cases x with
  | one c => exact RT1.bd (x := .one c) h
  | agg cs => exact RT1.bd (x := .agg cs) h
  | un => exact h.elim
  | tup vs =>
    obtain ⟨arr, rfl, h1, h2⟩ := h
    intro c hc
    obtain ⟨j, hj⟩ := List.getElem?_of_mem hc
    obtain ⟨u, _, hr⟩ := h2 j c hj
    exact hr.bd


/-- Blocks apart. -/
def disC (B : Bk) : MC → Prop
  | .tr _ B0 _ _ => ∀ x, B0 x → ¬ B x
  | _ => True
def disV1 (B : Bk) : MV → Prop
  | .one c => disC B c
  | .agg cs => ∀ c ∈ cs, disC B c
  | _ => True
def disV (B : Bk) : MV → Prop
  | .tup vs => ∀ v ∈ vs, disV1 B v
  | v => disV1 B v
def disOb (B : Bk) : Ob → Prop
  | .box cs => ∀ c ∈ cs, disC B c
  | .arr rows => ∀ r ∈ rows, ∀ c ∈ r, disC B c
structure Dis (s : S) (B : Bk) : Prop where
  env : ∀ t v, look s.env t = some v → disV B v
  st : ∀ id o, look s.st id = some o → disOb B o

theorem RC.dis {st : Sto} {L : Lay} {w : World} {F : FF} {B : Bk} (hB : ∀ b, F.all b → ¬ B b) {c : MC} {v : Value} (h : RC st L w F c v) : disC B c := by
  cases c <;> first | trivial | exact fun x hx => hB x (h.2.1 x hx).1
theorem RV1.dis {st : Sto} {L : Lay} {w : World} {F : FF} {B : Bk} (hB : ∀ b, F.all b → ¬ B b) {x : MV} {v : Value} (h : RV1 st L w F x v) : disV1 B x := by
  cases x with
  | one c => exact RC.dis hB h
  | agg cs =>
    obtain ⟨arr, rfl, h1, h2⟩ := h
    intro c hc
    obtain ⟨j, hj⟩ := List.getElem?_of_mem hc
    obtain ⟨u, _, hr⟩ := h2 j c hj
    exact hr.dis hB
  | un => trivial
  | tup _ => exact h.elim
theorem RV.dis {st : Sto} {L : Lay} {w : World} {F : FF} {B : Bk} (hB : ∀ b, F.all b → ¬ B b) {x : MV} {v : Value} (h : RV st L w F x v) : disV B x := by
  cases x with
  | one c => exact RV1.dis (x := .one c) hB h
  | agg cs => exact RV1.dis (x := .agg cs) hB h
  | un => trivial
  | tup vs =>
    obtain ⟨arr, rfl, h1, h2⟩ := h
    intro c hc
    obtain ⟨j, hj⟩ := List.getElem?_of_mem hc
    obtain ⟨u, _, hr⟩ := h2 j c hj
    exact hr.dis hB
theorem ObOK.dis {st : Sto} {L : Lay} {w : World} {F : FF} {B : Bk} (hB : ∀ b, F.all b → ¬ B b) {id : Nat} {o : Ob} (h : ObOK st L w F id o) : disOb B o := by
  cases o with
  | box cs =>
    obtain ⟨b, s, _, _, h⟩ := h
    intro c hc
    obtain ⟨j, hj⟩ := List.getElem?_of_mem hc
    obtain ⟨u, _, hr⟩ := h j c hj
    exact hr.dis hB
  | arr rows =>
    intro r hr c hc
    rcases h with ⟨rfl, _⟩ | ⟨b, s, _, _, _, h⟩
    · cases hr
    · obtain ⟨i, hi⟩ := List.getElem?_of_mem hr
      obtain ⟨j, hj⟩ := List.getElem?_of_mem hc
      obtain ⟨u, _, hr⟩ := h i r hi j c hj
      exact hr.dis hB
theorem Rl.dis {w0 : World} {wr : Wr} {A : Nat → Prop} {L : Lay} {F : FF} {s : S} {a : Act} {w : World} (h : Rl w0 wr A L F s a w) {B : Bk} (hB : ∀ b, F.all b → ¬ B b) : Dis s B :=
  ⟨fun t v hv => (h.env t v hv).dis hB, fun id o ho => (h.ob id o ho).dis hB⟩

structure DisO (s : S) (B : Bk) : Prop where
  st : ∀ id o, look s.st id = some o → disOb B o
def DisH (fl : Bool) (s : S) (B : Bk) : Prop := match fl with
  | true => Dis s B
  | false => DisO s B
theorem Dis.h {s : S} {B : Bk} (h : Dis s B) (fl : Bool) : DisH fl s B := match fl with
  | true => h
  | false => ⟨h.st⟩

/-- Sets that lie apart. -/
def Apart (B : Nat → Nat → Tk) : Prop := ∀ i j i' j' x, (B i j).B x → (B i' j').B x → i = i' ∧ j = j'
def Any (B : Nat → Nat → Tk) : Bk := fun x => ∃ i j, (B i j).B x

/-- A CONTRACT of a function that makes trees: its results' slices are trees, each in new blocks of its own. -/
def TPure (P : Program) (f : Nat) (args : List MV) (r : MV) : Prop := Fun P f ∧
  ∀ (w : World) (A : Nat → Prop) (vals : Array Value), vals.size = args.length → (∀ (j : Nat) (x : MV), args[j]? = some x → ∃ v : Value, vals[j]? = some v ∧ FV w A x v) → (∀ b, A b → b < w.heap.size) → GT P w (fun _ => False) →
    Calls P f vals w fun e w' => ∃ (v : Value) (B : Nat → Nat → Tk), e = .returned v ∧ Below w.heap.size w w' ∧ RTV w' (lab true B r) v ∧ Apart B ∧ ∀ b, Any B b → w.heap.size ≤ b ∧ b < w'.heap.size

/-- The state behind a call that leaves all that was there, where the blocks N are new and written no more. -/
theorem Rl.below {w0 : World} {wr : Wr} {A : Nat → Prop} {L : Lay} {F : FF} {s : S} {a : Act} {w w' : World} (hR : Rl w0 wr A L F s a w) (hbel : Below w.heap.size w w') {N : Bk} (hN : ∀ b, N b → w.heap.size ≤ b ∧ b < w'.heap.size) :
    Rl w0 wr A L ⟨fun b => F.n b ∨ N b, F.a⟩ s a w' := by
  have hold : ∀ b, b < w.heap.size → w'.heap[b]? = w.heap[b]? := hbel.block
  have hi : ∀ x : MC, x.bd s.n → ∀ u, RC (look s.st) L w F x u → RC (look s.st) L w' ⟨fun b => F.n b ∨ N b, F.a⟩ x u := fun x hx u hr =>
    RC.same (F' := ⟨fun b => F.n b ∨ N b, F.a⟩) (fun b hb => hold b (hR.fsz b hb)) ⟨fun _ h => Or.inl h, fun _ h => h, fun _ h => h⟩ (fun _ _ => rfl) (fun id b t j hid hL hj => by
      rw [World.cell?_of_block (w := w) (hold b (hR.own id b t hid hL).2.1)]; exact hj) hr
  refine ⟨hbel.os.trans hR.os, hbel.tape.trans hR.tape, hbel.output.trans hR.output, Nat.le_trans hR.size hbel.size, fun k hk hn => (hold k (Nat.lt_of_lt_of_le hk hR.size)).trans (hR.keep k hk hn), fun b j hb hc => by rw [World.cell?_of_block (w := w) (hold b (Nat.lt_of_lt_of_le hb hR.size))]; exact hR.kc b j hb hc, hR.pin, hR.fa, ?_, ?_, ?_, ?_, hR.inj, hR.sz, ?_, hR.bst, hR.ben, hR.df⟩
  · rintro b (hb | hb)
    · exact hR.fn b hb
    · exact .inl (Nat.le_trans hR.size (hN b hb).1)
  · rintro b ((hb | hb) | hb)
    · exact Nat.lt_of_lt_of_le (hR.fsz b (.inl hb)) hbel.size
    · exact (hN b hb).2
    · exact Nat.lt_of_lt_of_le (hR.fsz b (.inr hb)) hbel.size
  · exact fun id o ho => (hR.ob id o ho).imp (hR.bst id o ho).2 rfl (fun b t hL => hold b (hR.own id b t (by simp [ho]) hL).2.1) hi
  · intro id b t h3 h4
    have := hR.own id b t h3 h4
    refine ⟨?_, Nat.lt_of_lt_of_le this.2.1 hbel.size, this.2.2⟩
    rintro ((hb | hb) | hb)
    · exact this.1 (.inl hb)
    · have := (hN b hb).1; have := (hR.own id b t h3 h4).2.1; omega
    · exact this.1 (.inr hb)
  · exact fun t v hv => (hR.env t v hv).imp (hR.ben t v hv) hi

theorem inC_labc {o : Bool} {B : Tk} {c : MC} {b : Nat} (h : inC b (labc o B c)) : B.B b ∨ inC b c := by
  cases c <;> first | exact .inl h | exact .inr h
theorem in1_lab1 {o : Bool} {B : Nat → Tk} {x : MV} {b : Nat} (h : in1 b (lab1 o B x)) : (∃ j, (B j).B b) ∨ in1 b x := by
  cases x with
  | one c => exact (inC_labc h).imp (fun h => ⟨0, h⟩) id
  | agg cs =>
    obtain ⟨c, hc, hb⟩ := h
    obtain ⟨j, hj⟩ := List.getElem?_of_mem hc
    rw [labRow_get] at hj
    obtain ⟨c0, hc0, rfl⟩ := Option.map_eq_some_iff.1 hj
    rcases inC_labc hb with hb | hb
    · exact .inl ⟨_, hb⟩
    · exact .inr ⟨c0, List.mem_of_getElem? hc0, hb⟩
  | un => exact .inr h
  | tup _ => exact .inr h
theorem inV_lab {o : Bool} {B : Nat → Nat → Tk} {x : MV} {b : Nat} (h : inV b (lab o B x)) : Any B b ∨ inV b x := by
  cases x with
  | one c => exact (in1_lab1 (x := .one c) h).imp (fun ⟨j, h⟩ => ⟨0, j, h⟩) id
  | agg cs => exact (in1_lab1 (x := .agg cs) h).imp (fun ⟨j, h⟩ => ⟨0, j, h⟩) id
  | un => exact .inr h
  | tup vs =>
    obtain ⟨c, hc, hb⟩ := h
    obtain ⟨j, hj⟩ := List.getElem?_of_mem hc
    rw [labT_get] at hj
    obtain ⟨c0, hc0, rfl⟩ := Option.map_eq_some_iff.1 hj
    rcases in1_lab1 hb with ⟨k, hb⟩ | hb
    · exact .inl ⟨_, k, hb⟩
    · exact .inr ⟨c0, List.mem_of_getElem? hc0, hb⟩

/-- No cell of a contract's result names blocks. -/
def plainC : MC → Bool
  | .tr _ _ _ _ => false
  | _ => true
def plain1 : MV → Bool
  | .one c => plainC c
  | .agg cs => cs.all plainC
  | _ => true
def plainV : MV → Bool
  | .tup vs => vs.all plain1
  | v => plain1 v
theorem plainC_in {c : MC} {b : Nat} (h : plainC c = true) : ¬ inC b c := by cases c <;> first | exact id | (cases h)
theorem plain1_in {x : MV} {b : Nat} (h : plain1 x = true) : ¬ in1 b x := by
  cases x with
  | one c => exact plainC_in h
  | agg cs => exact fun ⟨c, hc, hb⟩ => plainC_in (List.all_eq_true.1 h c hc) hb
  | un => exact id
  | tup _ => exact id
theorem plainV_in {x : MV} {b : Nat} (h : plainV x = true) : ¬ inV b x := by
  cases x with
  | one c => exact plain1_in (x := .one c) h
  | agg cs => exact plain1_in (x := .agg cs) h
  | un => exact id
  | tup vs => exact fun ⟨c, hc, hb⟩ => plain1_in (List.all_eq_true.1 h c hc) hb

/-- A CALL that makes trees. -/
theorem r_callT {o : Oper} {s : S} {K : S → Prop} {f : Nat} {xs : Array Operand} {ts : Array TypeId} {p : Prop} {ds : List MV} {r : MV} (ho : o.op = .call { callee := .value (.func f), args := xs, argTypes := ts })
    (hd : Oper.dok o s.m = true) (hl : lend s xs.toList = some (p, ds)) (hp : p) (hc : TPure P f ds r) (hpl : plainV r = true) (k : ∀ B, Apart B → Dis s (Any B) → K (s.put o.dst (lab true B r))) : OpOK P o s K := by
  intro w0 wr A a w Q K' hg ⟨L, F, hR⟩ hK
  obtain ⟨⟨fn, hfn, hname, hbody⟩, hc⟩ := hc
  obtain ⟨h1, h2⟩ := lend_ok hR hl hp
  have hrun : (execOp a.eval o).run P w = .ok (.enter f (xs.map a.eval)) w := by
    simp only [execOp, ho, resolve, Act.eval, Deferred.ofValue, Sem.run_bind, Sem.run_pure, Result.andThen_ok, invoke, callFunc, run_program, hfn, hname, hbody]
    simp
  unfold Oper.wp
  rw [hrun]
  show Calls P f (xs.map a.eval) w _
  have hcall := hc w (fun b => b < w.heap.size) (xs.map a.eval) (by simp [h1]) (fun j x hj => by
    obtain ⟨v, hv, hx⟩ := h2 j x hj
    exact ⟨v, by simpa using hv, hx⟩) (fun b hb => hb) (hg.gt.move hR.size fun g h1 h2 => ⟨hR.keep g h1 h2, id⟩)
  refine hcall.mono fun e w' hpost => ?_
  obtain ⟨v, B, rfl, hbel, hrt, hap, hnew⟩ := hpost
  have hdis : ∀ b, F.all b → ¬ Any B b := fun b hb hB => by
    have := hR.fsz b hb; have := (hnew b hB).1; omega
  have hR' := hR.below hbel hnew
  exact hK _ _ _ ⟨L, _, hR'.put (Oper.dok_spec hd) (hrt.rv fun b hb => by
    have h3 := (inV_lab hb).resolve_right (plainV_in hpl)
    exact ⟨.inr h3, fun h4 => hdis b (.inr h4) h3⟩) hrt.bd⟩ (k B hap (hR.dis hdis))

/-- A frozen result, told with its blocks. -/
theorem RF.rt {w : World} {F : Nat → Prop} {c : MC} {v : Value} (h : RF w F c v) : RT w (labc false ⟨F, v⟩ c) v := by
  cases h with
  | sc v h => exact ⟨rfl, h⟩
  | nilz a cap => exact ⟨rfl, RF.nilz a cap⟩
  | fz rows b off cap s f hb hs hcap hc hr => exact ⟨rfl, RF.fz rows b off cap s f hb hs hcap hc hr⟩

theorem OC.frz {w : World} {F : Nat → Prop} {cs : List MC} {vs : List Value} {bs : List Nat} (h : OC w F cs vs bs) (hf : cs.all MC.frz = true) :
    vs.length = cs.length ∧ ∀ (j : Nat) (c : MC), cs[j]? = some c → ∃ u : Value, vs[j]? = some u ∧ RF w F c u := by
  induction h with
  | nil => exact ⟨rfl, fun j c hj => by simp at hj⟩
  | fz h t ih =>
    simp only [List.all_cons, Bool.and_eq_true] at hf
    obtain ⟨h1, h2⟩ := ih hf.2
    refine ⟨by simp [h1], fun j c hj => ?_⟩
    cases j with
    | zero => obtain rfl := Option.some.inj hj; exact ⟨_, rfl, h⟩
    | succ j => exact h2 j c hj
  | own0 t ih => simp [MC.frz] at hf
  | own h t ih => simp [MC.frz] at hf
def frz1 : MV → Bool
  | .one c => c.frz
  | .agg cs => cs.all MC.frz
  | _ => false
def frzVT : MV → Bool
  | .tup vs => vs.all frz1
  | v => frz1 v
theorem OV1.rt {w : World} {F : Nat → Prop} {x : MV} {v : Value} {bs : List Nat} (h : OV1 w F x v bs) (hf : frz1 x = true) : ∃ U : Nat → Value, RT1 w (lab1 false (fun j => ⟨F, U j⟩) x) v := by
  cases x with
  | one c =>
    obtain ⟨_, h2⟩ := OC.frz h (by simpa [frz1] using hf)
    obtain ⟨u, hu, hr⟩ := h2 0 c rfl
    obtain rfl := Option.some.inj hu
    exact ⟨fun _ => v, hr.rt⟩
  | agg cs =>
    obtain ⟨arr, rfl, h⟩ := h
    obtain ⟨h1, h2⟩ := OC.frz h hf
    refine ⟨fun j => arr.getD j undef, arr, rfl, by rw [labRow_len]; simpa using h1, fun j c hj => ?_⟩
    rw [labRow_get] at hj
    obtain ⟨c0, hc0, rfl⟩ := Option.map_eq_some_iff.1 hj
    obtain ⟨u, hu, hr⟩ := h2 j c0 hc0
    have hu' : arr[j]? = some u := by simpa using hu
    refine ⟨u, hu', ?_⟩
    have : arr.getD (0 + j) undef = u := by rw [Nat.zero_add, Array.getD_eq_getD_getElem?, hu']; rfl
    show RT w (labc false ⟨F, arr.getD (0 + j) undef⟩ c0) u
    rw [this]; exact hr.rt
  | un => cases hf
  | tup _ => cases hf
theorem OT.rt {w : World} {F : Nat → Prop} {xs : List MV} {vs : List Value} {bs : List Nat} (h : OT w F xs vs bs) (hf : xs.all frz1 = true) :
    vs.length = xs.length ∧ ∃ U : Nat → Nat → Value, ∀ (j : Nat) (x : MV), xs[j]? = some x → ∃ u : Value, vs[j]? = some u ∧ RT1 w (lab1 false (fun k => ⟨F, U j k⟩) x) u := by
  induction h with
  | nil => exact ⟨rfl, fun _ _ => undef, fun j c hj => by simp at hj⟩
  | cons h t ih =>
    simp only [List.all_cons, Bool.and_eq_true] at hf
    obtain ⟨h1, U, h2⟩ := ih hf.2
    obtain ⟨U0, h0⟩ := h.rt hf.1
    refine ⟨by simp [h1], fun j => match j with | 0 => U0 | j + 1 => U j, fun j c hj => ?_⟩
    cases j with
    | zero => obtain rfl := Option.some.inj hj; exact ⟨_, rfl, h0⟩
    | succ j => exact h2 j c hj
theorem OV.rt {w : World} {F : Nat → Prop} {x : MV} {v : Value} {bs : List Nat} (h : OV w F x v bs) (hf : frzVT x = true) : ∃ U : Nat → Nat → Value, RTV w (lab false (fun i j => ⟨F, U i j⟩) x) v := by
  cases x with
  | one c => obtain ⟨U, h⟩ := OV1.rt (x := .one c) h hf; exact ⟨fun _ => U, h⟩
  | agg cs => obtain ⟨U, h⟩ := OV1.rt (x := .agg cs) h hf; exact ⟨fun _ => U, h⟩
  | un => exact h.elim
  | tup vs =>
    obtain ⟨arr, rfl, h⟩ := h
    obtain ⟨h1, U, h2⟩ := h.rt hf
    refine ⟨U, arr, rfl, by rw [labT_len]; simpa using h1, fun j c hj => ?_⟩
    rw [labT_get] at hj
    obtain ⟨c0, hc0, rfl⟩ := Option.map_eq_some_iff.1 hj
    obtain ⟨u, hu, hr⟩ := h2 j c0 hc0
    exact ⟨u, by simpa using hu, by rw [Nat.zero_add]; exact hr⟩
theorem frz_plain {c : MC} (h : c.frz = true) : plainC c = true := by cases c <;> first | rfl | (cases h)
theorem frzVT_plain {x : MV} (h : frzVT x = true) : plainV x = true := by
  have h1 : ∀ x, frz1 x = true → plain1 x = true := fun x h => by
    cases x with
    | one c => exact frz_plain h
    | agg cs => exact List.all_eq_true.2 fun c hc => frz_plain (List.all_eq_true.1 h c hc)
    | un => rfl
    | tup _ => rfl
  cases x with
  | one c => exact h1 (.one c) h
  | agg cs => exact h1 (.agg cs) h
  | un => rfl
  | tup vs => exact List.all_eq_true.2 fun c hc => h1 c (List.all_eq_true.1 h c hc)

/-- A CALL whose frozen result is told with its blocks. -/
theorem r_callF {o : Oper} {s : S} {K : S → Prop} {f : Nat} {xs : Array Operand} {ts : Array TypeId} {p : Prop} {ds : List MV} {r : MV} (ho : o.op = .call { callee := .value (.func f), args := xs, argTypes := ts })
    (hd : Oper.dok o s.m = true) (hl : lend s xs.toList = some (p, ds)) (hp : p) (hc : Pure P false f ds r) (hfr : frzVT r = true) (k : ∀ (B : Bk) (U : Nat → Nat → Value), Dis s B → K (s.put o.dst (lab false (fun i j => ⟨B, U i j⟩) r))) : OpOK P o s K := by
  intro w0 wr A a w Q K' hg ⟨L, F, hR⟩ hK
  obtain ⟨⟨fn, hfn, hname, hbody⟩, hc⟩ := hc
  obtain ⟨h1, h2⟩ := lend_ok hR hl hp
  have hrun : (execOp a.eval o).run P w = .ok (.enter f (xs.map a.eval)) w := by
    simp only [execOp, ho, resolve, Act.eval, Deferred.ofValue, Sem.run_bind, Sem.run_pure, Result.andThen_ok, invoke, callFunc, run_program, hfn, hname, hbody]
    simp
  unfold Oper.wp
  rw [hrun]
  show Calls P f (xs.map a.eval) w _
  have hcall := hc w (fun b => b < w.heap.size) (xs.map a.eval) (by simp [h1]) (fun j x hj => by
    obtain ⟨v, hv, hx⟩ := h2 j x hj
    exact ⟨v, by simpa using hv, hx⟩) (fun b hb => hb) (hg.gt.move hR.size fun g h1 h2 => ⟨hR.keep g h1 h2, id⟩)
  refine hcall.mono fun e w' hpost => ?_
  obtain ⟨v, B, bs, rfl, hbel, hnew0, hov, _, _⟩ := hpost
  have hnew : ∀ b, B b → w.heap.size ≤ b ∧ b < w'.heap.size := fun b hb => by
    obtain ⟨h3, h4⟩ := hnew0 b hb
    exact ⟨h4.resolve_right (by simp), h3⟩
  have hdis : ∀ b, F.all b → ¬ B b := fun b hb hB => by
    have := hR.fsz b hb; have := (hnew b hB).1; omega
  have hR' := hR.below hbel hnew
  obtain ⟨U, hrt⟩ := hov.rt hfr
  exact hK _ _ _ ⟨L, _, hR'.put (Oper.dok_spec hd) (hrt.rv fun b hb => by
    obtain ⟨_, _, h⟩ := (inV_lab hb).resolve_right (plainV_in (frzVT_plain hfr)); exact ⟨.inr h, fun h4 => hdis b (.inr h4) h⟩) hrt.bd⟩ (k B U (hR.dis hdis))

/-- A flat function's slices of its own are trees. -/
theorem OwnB.tr {w : World} {F : Nat → Prop} {b s cap : Nat} {rows : List (List MC)} (h : OwnB w F b s cap rows) (hsc : ∀ r ∈ rows, ∀ c ∈ r, ∃ v, c = .sc v) (hsz : b < w.heap.size) :
    TR w (.fz rows) (.slice (some ⟨b, 0, none⟩) rows.length cap) (fun x => x = b) := by
  obtain ⟨hf, h0, hs, hcap, hx, hc⟩ := h
  refine .fz rows b cap s (fun i j => (w.cell? ⟨b, i * s + j, none⟩).getD undef) (fun _ _ _ => False) _ h0 hf hs hcap hx hsz (fun i j r c h1 h2 => ?_) (fun i j r c h1 h2 => ?_) (fun _ _ _ _ _ h => h.elim) (fun _ _ h => h) (fun x => by simp) (fun _ _ _ h => h.elim)
  · obtain ⟨u, hu, _⟩ := hc i r h1 j c h2
    simp [hu]
  · obtain ⟨u, hu, hr⟩ := hc i r h1 j c h2
    obtain ⟨v, rfl⟩ := hsc r (List.mem_of_getElem? h1) c (List.mem_of_getElem? h2)
    have e : (w.cell? ⟨b, i * s + j, none⟩).getD undef = u := by rw [hu]; rfl
    rw [e]
    have h1 := hr.one
    cases hr
    exact .sc _ _ h1 fun _ h => h

end Mg

/- The abstract state logic, part 38: calls that write what hangs on a tree. No condition. -/
namespace Mg
open Go Go.RowKit
set_option linter.unusedVariables false

variable {P : Program} {T : Tab}

/-- What a call leaves that writes the blocks N alone. -/
structure MkPost (w w' : World) (N : Bk) : Prop where
  os : w'.os = w.os
  tape : w'.tape = w.tape
  output : w'.output = w.output
  size : w.heap.size ≤ w'.heap.size
  keep : ∀ b, b < w.heap.size → ¬ N b → w'.heap[b]? = w.heap[b]?
  kc : ∀ b j, b < w.heap.size → (w.cell? ⟨b, j, none⟩).isSome = true → (w'.cell? ⟨b, j, none⟩).isSome = true

/-- A CONTRACT of a function that writes into trees. -/
def TMark (P : Program) (f : Nat) (x : MV) (k : Int) (x' : MV) (k' : Int) : Prop := Fun P f ∧
  ∀ (w : World) (v : Value) (B : Nat → Nat → Tk), RTV w (lab true B x) v → Apart B → GT P w (fun b => inV b (lab true B x)) →
    Calls P f #[v, .int .i64 k] w fun e w' => e = .returned (.int .i64 k') ∧ MkPost w w' (fun b => inV b (lab true B x)) ∧ RTV w' (lab true B x') v

def cellsV : MV → List MC
  | .one c => [c]
  | .agg cs => cs
  | _ => []
def tokC : MC → Tk
  | .tr _ B u _ => ⟨B, u⟩
  | _ => ⟨fun _ => False, undef⟩
/-- The blocks of a value's cells, by their places. -/
def tokOf (x : MV) (i j : Nat) : Tk := match i with
  | 0 => tokC ((cellsV x).getD j .dead)
  | _ + 1 => ⟨fun _ => False, undef⟩
def unlC : MC → MC
  | .tr _ _ _ rows => .fz rows
  | c => c
def unl : MV → MV
  | .one c => .one (unlC c)
  | .agg cs => .agg (cs.map unlC)
  | v => v
def tsC : MC → Bool
  | .sc _ => true
  | .tr true _ _ _ => true
  | _ => false
def tsV : MV → Bool
  | .one c => tsC c
  | .agg cs => cs.all tsC
  | _ => false

theorem labc_unl {c : MC} (h : tsC c = true) : labc true (tokC c) (unlC c) = c := by
  cases c <;> first | rfl | (cases h; done) | skip
  rename_i o B u rows
  cases o
  · cases h
  · rfl
theorem labRow_unl (B : Nat → Tk) : ∀ (cs : List MC) (k : Nat), (∀ j c, cs[j]? = some c → tsC c = true ∧ B (k + j) = tokC c) → labRow true B k (cs.map unlC) = cs
  | [], k, h => rfl
  | c :: cs, k, h => by
    have h0 := h 0 c rfl
    rw [List.map_cons, labRow, labRow_unl B cs (k + 1) fun j c hj => by
      have := h (j + 1) c hj; rw [show k + 1 + j = k + (j + 1) by omega]; exact this]
    rw [Nat.add_zero] at h0
    rw [h0.2, labc_unl h0.1]
theorem lab_unl {x : MV} (h : tsV x = true) : lab true (tokOf x) (unl x) = x := by
  cases x with
  | one c => exact congrArg MV.one (labc_unl h)
  | agg cs =>
    refine congrArg MV.agg (labRow_unl _ cs 0 fun j c hj => ⟨List.all_eq_true.1 h c (List.mem_of_getElem? hj), ?_⟩)
    show tokC (cs.getD (0 + j) .dead) = _
    rw [Nat.zero_add, List.getD_eq_getElem?_getD, hj]; rfl
  | un => cases h
  | tup _ => cases h

theorem RC.rt {st : Sto} {L : Lay} {w : World} {F : FF} {c : MC} {v : Value} (h : RC st L w F c v) (ht : tsC c = true) : RT w c v ∧ ∀ b, inC b c → F.n b ∧ ¬ F.a b := by
  cases c <;> first | (cases ht; done) | skip
  · exact ⟨h, fun b hb => hb.elim⟩
  · rename_i o B u rows
    cases o
    · cases ht
    · exact ⟨⟨h.1, h.2.2⟩, fun b hb => (h.2.1 b hb).2 rfl⟩
theorem RV.rt {st : Sto} {L : Lay} {w : World} {F : FF} {x : MV} {v : Value} (h : RV st L w F x v) (ht : tsV x = true) : RTV w x v ∧ ∀ b, inV b x → F.n b ∧ ¬ F.a b := by
  cases x with
  | one c => exact RC.rt h ht
  | agg cs =>
    obtain ⟨arr, rfl, h1, h2⟩ := h
    refine ⟨⟨arr, rfl, h1, fun j c hj => ?_⟩, fun b ⟨c, hc, hb⟩ => ?_⟩
    · obtain ⟨u, hu, hr⟩ := h2 j c hj
      exact ⟨u, hu, (hr.rt (List.all_eq_true.1 ht c (List.mem_of_getElem? hj))).1⟩
    · obtain ⟨j, hj⟩ := List.getElem?_of_mem hc
      obtain ⟨u, hu, hr⟩ := h2 j c hj
      exact (hr.rt (List.all_eq_true.1 ht c hc)).2 b hb
  | un => cases ht
  | tup _ => cases ht

/-- A cell behind a call that writes the blocks N, where what was handed over now reads as ys. -/
inductive UpC (N : Bk) (ys : List MC) : MC → MC → Prop
  | dead : UpC N ys .dead .dead
  | sc (v : Value) : UpC N ys (.sc v) (.sc v)
  | nil : UpC N ys .nil .nil
  | ref (i off len : Nat) : UpC N ys (.ref i off len) (.ref i off len)
  | ptr (i r off : Nat) : UpC N ys (.ptr i r off) (.ptr i r off)
  | tr (o : Bool) (B : Bk) (u : Value) (rows : List (List MC)) (h : ∀ x, B x → ¬ N x) : UpC N ys (.tr o B u rows) (.tr o B u rows)
  | mk (B : Bk) (u : Value) (rows rows' : List (List MC)) (h : .tr true B u rows' ∈ ys) : UpC N ys (.tr true B u rows) (.tr true B u rows')
def UpL (N : Bk) (ys : List MC) : List MC → List MC → Prop
  | [], [] => True
  | c :: cs, d :: ds => Side (UpC N ys c d) ∧ UpL N ys cs ds
  | _, _ => False
theorem UpL.get {N : Bk} {ys : List MC} : ∀ {cs ds : List MC}, UpL N ys cs ds → cs.length = ds.length ∧ ∀ (j : Nat) (d : MC), ds[j]? = some d → ∃ c, cs[j]? = some c ∧ UpC N ys c d
  | [], [], _ => ⟨rfl, fun j d hj => by simp at hj⟩
  | c :: cs, d :: ds, h => by
    obtain ⟨h1, h2⟩ := UpL.get h.2
    refine ⟨by simp [h1], fun j x hj => ?_⟩
    cases j with
    | zero => obtain rfl := Option.some.inj hj; exact ⟨c, rfl, h.1.h⟩
    | succ j => exact h2 j x hj
  | [], _ :: _, h => h.elim
  | _ :: _, [], h => h.elim
def UpV (N : Bk) (ys : List MC) : MV → MV → Prop
  | .one c, .one d => Side (UpC N ys c d)
  | .agg cs, .agg ds => UpL N ys cs ds
  | _, _ => False
def UpR (N : Bk) (ys : List MC) (rows rows' : List (List MC)) : Prop :=
  rows.length = rows'.length ∧ ∀ (i : Nat) (r' : List MC), rows'[i]? = some r' → ∃ r, rows[i]? = some r ∧ r.length = r'.length ∧ ∀ (j : Nat) (d : MC), r'[j]? = some d → ∃ c, r[j]? = some c ∧ UpC N ys c d
def UpO (N : Bk) (ys : List MC) : Ob → Ob → Prop
  | .box cs, .box ds => UpL N ys cs ds
  | .arr rows, .arr rows' => Side (UpR N ys rows rows')
  | _, _ => False

theorem UpC.bd {N : Bk} {ys : List MC} {c d : MC} {n : Nat} (h : UpC N ys c d) (hb : c.bd n) : d.bd n := by cases h <;> first | exact hb | trivial

theorem UpC.rc {N : Bk} {ys : List MC} {st st' : Sto} {L : Lay} {w w' : World} {F : FF} {c d : MC} {v : Value} (h : UpC N ys c d) (hr : RC st L w F c v)
    (hst : ∀ id, (st' id = none ∧ True) ∨ (∃ cs ds, st id = some (.box cs) ∧ st' id = some (.box ds)) ∨ (∃ rows rows', st id = some (.arr rows) ∧ st' id = some (.arr rows') ∧ rows.length = rows'.length))
    (hw : ∀ b, F.all b → ¬ N b → w'.heap[b]? = w.heap[b]?) (hc : ∀ b j, (w.cell? ⟨b, j, none⟩).isSome = true → b < w.heap.size → (w'.cell? ⟨b, j, none⟩).isSome = true)
    (hl : ∀ id b t, (st id).isSome = true → L id = some (b, t) → b < w.heap.size)
    (hy : ∀ B u rows, .tr true B u rows ∈ ys → TR w' (.fz rows) u B) : RC st' L w' F d v := by
  cases h with
  | dead => exact hr
  | sc v => exact hr
  | nil => exact hr
  | ref id off len =>
    refine ⟨hr.1, fun rows' hs => ?_⟩
    rcases hst id with ⟨h0, _⟩ | ⟨cs, ds, _, h0⟩ | ⟨rows, rows2, h1, h2, h3⟩
    · rw [h0] at hs; cases hs
    · rw [h0] at hs; cases hs
    · rw [h2] at hs
      obtain rfl := Ob.arr.inj (Option.some.inj hs)
      obtain ⟨a, cap, hv, hle, hx⟩ := hr.2 rows h1
      refine ⟨a, cap, hv, by omega, hx.imp (fun ⟨b, s, g1, g2, g3, g4, g5⟩ => ⟨b, s, g1, g2, g3, fun e => g4 (List.eq_nil_of_length_eq_zero (by rw [h3, e]; rfl)), fun j hj => hc b j (g5 j hj) (hl id b s (by rw [h1]; rfl) g1)⟩) fun h => h⟩
  | ptr id r off =>
    refine ⟨hr.1, fun hs => hr.2 ?_⟩
    rcases hst id with ⟨h0, _⟩ | ⟨cs, ds, h0, _⟩ | ⟨rows, rows2, h1, _, _⟩
    · rw [h0] at hs; cases hs
    · rw [h0]; rfl
    · rw [h1]; rfl
  | tr o B u rows h => exact ⟨hr.1, hr.2.1, hr.2.2.mono fun b hb => hw b (hr.2.1 b hb).1 (h b hb)⟩
  | mk B u rows rows' h => exact ⟨hr.1, hr.2.1, by rw [hr.1]; exact hy B u rows' h⟩

/-- A CALL that writes into trees. -/
theorem r_mark {o : Oper} {s s' : S} {K : S → Prop} {f : Nat} {x y : Operand} {ts : Array TypeId} {mx : MV} {k k' : Int} {X' : MV} (ho : o.op = .call { callee := .value (.func f), args := #[x, y], argTypes := ts })
    (hd : Oper.dok o s.m = true) (hx : evO s x = some mx) (hy : evO s y = some (.one (.sc (.int .i64 k)))) (hts : tsV mx = true) (hap : Apart (tokOf mx)) (hc : TMark P f (unl mx) k X' k')
    (hm : s'.m = s.m) (hn : s'.n = s.n) (henv : ∀ t v', look s'.env t = some v' → ∃ v, look s.env t = some v ∧ UpV (fun b => inV b mx) (cellsV (lab true (tokOf mx) X')) v v')
    (hst : ∀ id o', look s'.st id = some o' → ∃ o, look s.st id = some o ∧ UpO (fun b => inV b mx) (cellsV (lab true (tokOf mx) X')) o o') (k0 : K (s'.put o.dst (.one (.sc (.int .i64 k'))))) : OpOK P o s K := by
  intro w0 wr A a w Q K' hg ⟨L, F, hR⟩ hK
  obtain ⟨⟨fn, hfn, hname, hbody⟩, hc⟩ := hc
  obtain ⟨h1, _⟩ := evO_ok hR hx
  obtain ⟨⟨h2, _⟩, _⟩ := evO_ok hR hy
  obtain ⟨hrt, hF⟩ := RV.rt h1 hts
  have hrun : (execOp a.eval o).run P w = .ok (.enter f (#[x, y].map a.eval)) w := by
    simp only [execOp, ho, resolve, Act.eval, Deferred.ofValue, Sem.run_bind, Sem.run_pure, Result.andThen_ok, invoke, callFunc, run_program, hfn, hname, hbody]
    simp
  unfold Oper.wp
  rw [hrun]
  show Calls P f (#[x, y].map a.eval) w _
  have hargs : (#[x, y].map a.eval) = #[a.eval x, .int .i64 k] := by simp [h2]
  rw [hargs]
  have hlab := lab_unl hts
  have hN : ∀ b, inV b mx → b < w.heap.size ∧ (w0.heap.size ≤ b ∨ wr b) := fun b hb => by
    obtain ⟨g1, g2⟩ := hF b hb
    refine ⟨hR.fsz b (.inl g1), ?_⟩
    rcases hR.fn b g1 with g | g | g
    · exact .inl g
    · exact .inr g
    · exact absurd (by rw [hR.fa]; exact hg.oa b g) g2
  have hcall := hc w (a.eval x) (tokOf mx) (by rw [hlab]; exact hrt) hap (by
    rw [hlab]
    exact hg.gt.move hR.size fun g g1 g2 => ⟨hR.keep g g1 g2, fun hb => by
      rcases (hN g hb).2 with g3 | g3
      · omega
      · exact g2 g3⟩)
  rw [hlab] at hcall
  refine hcall.mono fun e w' ⟨he, hp, hrt'⟩ => ?_
  subst he
  have hys : ∀ B u rows, .tr true B u rows ∈ cellsV (lab true (tokOf mx) X') → TR w' (.fz rows) u B := fun B u rows hmem => by
    generalize lab true (tokOf mx) X' = yv at *
    cases yv with
    | one c =>
      obtain rfl : .tr true B u rows = c := by simpa [cellsV] using hmem
      have h1 : a.eval x = u ∧ TR w' (.fz rows) (a.eval x) B := hrt'
      rw [← h1.1]; exact h1.2
    | agg cs =>
      obtain ⟨arr, _, _, g⟩ := hrt'
      obtain ⟨j, hj⟩ := List.getElem?_of_mem hmem
      obtain ⟨uu, _, g3⟩ := g j _ hj
      have h1 : uu = u ∧ TR w' (.fz rows) uu B := g3
      rw [← h1.1]; exact h1.2
    | un => cases hmem
    | tup _ => cases hmem
  have hcases : ∀ id, (look s'.st id = none ∧ True) ∨ (∃ cs ds, look s.st id = some (.box cs) ∧ look s'.st id = some (.box ds)) ∨ (∃ rows rows', look s.st id = some (.arr rows) ∧ look s'.st id = some (.arr rows') ∧ rows.length = rows'.length) := fun id => by
    cases hid : look s'.st id with
    | none => exact .inl ⟨rfl, trivial⟩
    | some o' =>
      obtain ⟨o1, g1, g2⟩ := hst id o' hid
      cases o1 with
      | box cs => cases o' with
        | box ds => exact .inr (.inl ⟨cs, ds, g1, rfl⟩)
        | arr r => exact g2.elim
      | arr r => cases o' with
        | box ds => exact g2.elim
        | arr r' => exact .inr (.inr ⟨r, r', g1, rfl, g2.h.1⟩)
  have hsome : ∀ id, (look s'.st id).isSome = true → (look s.st id).isSome = true := fun id hid => by
    obtain ⟨o', ho'⟩ := Option.isSome_iff_exists.1 hid
    obtain ⟨o1, g1, _⟩ := hst id o' ho'
    rw [g1]; rfl
  have hrc : ∀ {c d : MC} {v : Value}, UpC (fun b => inV b mx) (cellsV (lab true (tokOf mx) X')) c d → RC (look s.st) L w F c v → RC (look s'.st) L w' F d v := fun hu hr =>
    hu.rc hr hcases (fun b hb hnb => hp.keep b (hR.fsz b hb) hnb) (fun b j h1 h2 => hp.kc b j h2 h1) (fun id b t h1 h2 => (hR.own id b t h1 h2).2.1) hys
  have hroot : ∀ id b t, (look s.st id).isSome = true → L id = some (b, t) → w'.heap[b]? = w.heap[b]? := fun id b t h3 h4 => by
    have := hR.own id b t h3 h4
    exact hp.keep b this.2.1 fun hb => this.1 (.inl (hF b hb).1)
  have hRl : Rl w0 wr A L F s' a w' := by
    refine ⟨hp.os.trans hR.os, hp.tape.trans hR.tape, hp.output.trans hR.output, Nat.le_trans hR.size hp.size, fun b hb hnb => ?_, fun b j hb hj => hp.kc b j (Nat.lt_of_lt_of_le hb hR.size) (hR.kc b j hb hj), fun i hi => by rw [hn]; exact hR.pin i hi, hR.fa, hR.fn, fun b hb => Nat.lt_of_lt_of_le (hR.fsz b hb) hp.size,
      fun id o' ho' => ?_, fun id b t h3 h4 => ?_, fun i j b t u h3 h4 h5 h6 => hR.inj i j b t u (hsome i h3) (hsome j h4) h5 h6, hR.sz.trans hm.symm, fun t v' hv' => ?_, fun id o' ho' => ?_, fun t v' hv' => ?_, hR.df⟩
    · have hb' := Nat.lt_of_lt_of_le hb hR.size
      rw [hp.keep b hb' fun hx => by
        rcases (hN b hx).2 with g | g
        · omega
        · exact hnb g]
      exact hR.keep b hb hnb
    · obtain ⟨o1, g1, g2⟩ := hst id o' ho'
      have hob := hR.ob id o1 g1
      cases o1 with
      | box cs => cases o' with
        | arr r => exact g2.elim
        | box ds =>
          obtain ⟨b, t, h3, h4, h5⟩ := hob
          have hbb := hroot id b t (by rw [g1]; rfl) h3
          refine ⟨b, t, h3, fun j => by rw [World.frozen?_of_block (w := w) hbb]; exact h4 j, fun j d hj => ?_⟩
          obtain ⟨c, hcj, hu⟩ := (UpL.get g2).2 j d hj
          obtain ⟨u, hu1, hu2⟩ := h5 j c hcj
          exact ⟨u, by rw [World.cell?_of_block (w := w) hbb]; exact hu1, hrc hu hu2⟩
      | arr r => cases o' with
        | box ds => exact g2.elim
        | arr r' =>
          rcases hob with ⟨h3, h4⟩ | ⟨b, t, h3, h4, h5, h6⟩
          · exact .inl ⟨List.eq_nil_of_length_eq_zero (by rw [← g2.h.1, h3]; rfl), h4⟩
          · have hbb := hroot id b t (by rw [g1]; rfl) h3
            refine .inr ⟨b, t, h3, fun j => by rw [World.frozen?_of_block (w := w) hbb]; exact h4 j, fun rr hrr => ?_, fun i rr hi j d hj => ?_⟩
            · obtain ⟨i, hi⟩ := List.getElem?_of_mem hrr
              obtain ⟨r0, hr0, hl, _⟩ := g2.h.2 i rr hi
              rw [← hl]; exact h5 r0 (List.mem_of_getElem? hr0)
            · obtain ⟨r0, hr0, hl, hup⟩ := g2.h.2 i rr hi
              obtain ⟨c, hcj, hu⟩ := hup j d hj
              obtain ⟨u, hu1, hu2⟩ := h6 i r0 hr0 j c hcj
              exact ⟨u, by rw [World.cell?_of_block (w := w) hbb]; exact hu1, hrc hu hu2⟩
    · have := hR.own id b t (hsome id h3) h4
      exact ⟨this.1, Nat.lt_of_lt_of_le this.2.1 hp.size, this.2.2⟩
    · obtain ⟨v, g1, g2⟩ := henv t v' hv'
      have hv := hR.env t v g1
      cases v with
      | one c => cases v' with
        | one d => exact hrc g2.h hv
        | _ => exact g2.elim
      | agg cs => cases v' with
        | agg ds =>
          obtain ⟨arr, h3, h4, h5⟩ := hv
          obtain ⟨h6, h7⟩ := UpL.get g2
          refine ⟨arr, h3, h4.trans h6, fun j d hj => ?_⟩
          obtain ⟨c, hcj, hu⟩ := h7 j d hj
          obtain ⟨u, hu1, hu2⟩ := h5 j c hcj
          exact ⟨u, hu1, hrc hu hu2⟩
        | _ => exact g2.elim
      | un => exact g2.elim
      | tup _ => exact g2.elim
    · obtain ⟨o1, g1, g2⟩ := hst id o' ho'
      obtain ⟨h3, h4⟩ := hR.bst id o1 g1
      rw [hn]
      refine ⟨h3, ?_⟩
      cases o1 with
      | box cs => cases o' with
        | arr r => exact g2.elim
        | box ds =>
          intro d hd'
          obtain ⟨j, hj⟩ := List.getElem?_of_mem hd'
          obtain ⟨c, hcj, hu⟩ := (UpL.get g2).2 j d hj
          exact hu.bd (h4 c (List.mem_of_getElem? hcj))
      | arr r => cases o' with
        | box ds => exact g2.elim
        | arr r' =>
          intro rr hrr d hd'
          obtain ⟨i, hi⟩ := List.getElem?_of_mem hrr
          obtain ⟨r0, hr0, hl, hup⟩ := g2.h.2 i rr hi
          obtain ⟨j, hj⟩ := List.getElem?_of_mem hd'
          obtain ⟨c, hcj, hu⟩ := hup j d hj
          exact hu.bd (h4 r0 (List.mem_of_getElem? hr0) c (List.mem_of_getElem? hcj))
    · obtain ⟨v, g1, g2⟩ := henv t v' hv'
      have hb := hR.ben t v g1
      rw [hn]
      cases v with
      | one c => cases v' with
        | one d => exact UpC.bd g2.h hb
        | _ => exact g2.elim
      | agg cs => cases v' with
        | agg ds =>
          intro d hd'
          obtain ⟨j, hj⟩ := List.getElem?_of_mem hd'
          obtain ⟨c, hcj, hu⟩ := (UpL.get g2).2 j d hj
          exact hu.bd (hb c (List.mem_of_getElem? hcj))
        | _ => exact g2.elim
      | un => exact g2.elim
      | tup _ => exact g2.elim
  exact hK _ _ _ ⟨L, F, hRl.put (fun x hx => by rw [hm]; exact Oper.dok_spec hd x hx) (v := .one (.sc (.int .i64 k'))) ⟨rfl, rfl⟩ trivial⟩ k0

/- ------------------------------------------------ the state behind it, reckoned -/
def substL (ys : List MC) : List (Nat × Nat) → List MC → List MC
  | [], cs => cs
  | (i, j) :: ps, cs => substL ys ps (cs.set i (ys.getD j .dead))
def substV (ys : List MC) (ps : List (Nat × Nat)) : MV → MV
  | .one c => match ps with
    | (_, j) :: _ => .one (ys.getD j .dead)
    | [] => .one c
  | .agg cs => .agg (substL ys ps cs)
  | v => v
def markK (s : S) : List Nat → List (Nat × MV) → List (Nat × MV)
  | [], l => l
  | t :: ts, l => match look s.env t with
    | some v => (t, v) :: markK s ts l
    | none => markK s ts l
def markU (s : S) (ys : List MC) : List (Nat × List (Nat × Nat)) → List (Nat × MV)
  | [] => []
  | (t, ps) :: ts => match look s.env t with
    | some v => (t, substV ys ps v) :: markU s ys ts
    | none => markU s ys ts
def markE (s : S) (ys : List MC) (keep : List Nat) (upd : List (Nat × List (Nat × Nat))) : List (Nat × MV) := markK s keep (markU s ys upd)
def markO (ys : List MC) (id : Nat) : List (Nat × Nat × Nat) → Ob → Ob
  | [], o => o
  | (id', i, j) :: l, o => match o with
    | .box cs => if id' = id then markO ys id l (.box (cs.set j (ys.getD i .dead))) else markO ys id l o
    | .arr rows => if id' = id then markO ys id l (.arr (rows.set i ((rows.getD i []).set j (ys.getD 0 .dead)))) else markO ys id l o
def markS (s : S) (ys : List MC) : List Nat → List (Nat × Nat × Nat) → List (Nat × Ob)
  | [], _ => []
  | id :: ids, ob => match look s.st id with
    | some o => (id, markO ys id ob o) :: markS s ys ids ob
    | none => markS s ys ids ob
def markEnv (N : Bk) (ys : List MC) (s : S) : List (Nat × MV) → Prop
  | [] => True
  | (t, v') :: l => (match look s.env t with
    | some v => UpV N ys v v'
    | none => False) ∧ markEnv N ys s l
def markSt (N : Bk) (ys : List MC) (s : S) : List (Nat × Ob) → Prop
  | [] => True
  | (id, o') :: l => (match look s.st id with
    | some o => UpO N ys o o'
    | none => False) ∧ markSt N ys s l
theorem markEnv_ok {N : Bk} {ys : List MC} {s : S} : ∀ {l : List (Nat × MV)}, markEnv N ys s l → ∀ t v', look l t = some v' → ∃ v, look s.env t = some v ∧ UpV N ys v v'
  | [], _, t, v', h => by simp at h
  | (k, x) :: l, hl, t, v', h => by
    rw [look_cons] at h
    by_cases e : t = k
    · rw [if_pos e] at h
      obtain rfl := Option.some.inj h
      subst e
      have := hl.1
      split at this
      · rename_i v hv; exact ⟨v, hv, this⟩
      · exact this.elim
    · rw [if_neg e] at h; exact markEnv_ok hl.2 t v' h
theorem markSt_ok {N : Bk} {ys : List MC} {s : S} : ∀ {l : List (Nat × Ob)}, markSt N ys s l → ∀ id o', look l id = some o' → ∃ o, look s.st id = some o ∧ UpO N ys o o'
  | [], _, t, v', h => by simp at h
  | (k, x) :: l, hl, t, v', h => by
    rw [look_cons] at h
    by_cases e : t = k
    · rw [if_pos e] at h
      obtain rfl := Option.some.inj h
      subst e
      have := hl.1
      split at this
      · rename_i v hv; exact ⟨v, hv, this⟩
      · exact this.elim
    · rw [if_neg e] at h; exact markSt_ok hl.2 t v' h

end Mg

/- The abstract state logic, part 16: what a piece of code asks for, reckoned. No condition. -/
namespace Mg
open Go Go.RowKit
set_option linter.unusedVariables false

variable {P : Program} {T : Tab}

def hintOf (hs : List (Nat × Hint)) : Option Nat → Option Hint
  | none => none
  | some d => look hs d

/- FORCING: each state is brought into plain form before it is handed on. -/
def fN (n : Nat) (k : Nat → Prop) : Prop := match n with
  | 0 => k 0
  | n + 1 => k (n + 1)
def fU (v : Value) (k : Value → Prop) : Prop := match v with
  | .int i n => k (.int i n)
  | .bool b => k (.bool b)
  | .string b => k (.string b)
  | v => k v
def fC (c : MC) (k : MC → Prop) : Prop := match c with
  | .dead => k .dead
  | .sc v => fU v fun v => k (.sc v)
  | .nil => k .nil
  | .fz r => k (.fz r)
  | .own r => k (.own r)
  | .ref i o l => fN i fun i => k (.ref i o l)
  | .ptr i r o => fN i fun i => k (.ptr i r o)
  | .fptr r => k (.fptr r)
  | .ag r => k (.ag r)
  | .aptr r => k (.aptr r)
  | .tr o B u r => k (.tr o B u r)
def fCs (cs : List MC) (k : List MC → Prop) : Prop := match cs with
  | [] => k []
  | c :: cs => fC c fun c => fCs cs fun cs => k (c :: cs)
def fV1 (v : MV) (k : MV → Prop) : Prop := match v with
  | .un => k .un
  | .one c => fC c fun c => k (.one c)
  | .agg cs => fCs cs fun cs => k (.agg cs)
  | .tup vs => k (.tup vs)
def fVs (vs : List MV) (k : List MV → Prop) : Prop := match vs with
  | [] => k []
  | v :: vs => fV1 v fun v => fVs vs fun vs => k (v :: vs)
def fV (v : MV) (k : MV → Prop) : Prop := match v with
  | .tup vs => fVs vs fun vs => k (.tup vs)
  | v => fV1 v k
def fOb (o : Ob) (k : Ob → Prop) : Prop := match o with
  | .box cs => fCs cs fun cs => k (.box cs)
  | .arr rows => k (.arr rows)
def fSt (st : List (Nat × Ob)) (k : List (Nat × Ob) → Prop) : Prop := match st with
  | [] => k []
  | (i, o) :: st => fN i fun i => fOb o fun o => fSt st fun st => k ((i, o) :: st)
def fOp (d : Option Nat) (k : Option Nat → Prop) : Prop := match d with
  | none => k none
  | some d => k (some d)
def fEnv (env : List (Nat × MV)) (k : List (Nat × MV) → Prop) : Prop := match env with
  | [] => k []
  | (d, v) :: tl => fN d fun d => fV v fun v => match tl with
    | [] => k [(d, v)]
    | x :: xs => k ((d, v) :: x :: xs)
def fS (s : S) (k : S → Prop) : Prop := match s with
  | ⟨m, n, env, st⟩ => fN m fun m => fN n fun n => fEnv env fun env => fSt st fun st => k ⟨m, n, env, st⟩

theorem fN_eq (n : Nat) (k : Nat → Prop) : fN n k = k n := by cases n <;> rfl
theorem fU_eq (v : Value) (k : Value → Prop) : fU v k = k v := by cases v <;> rfl
theorem fC_eq (c : MC) (k : MC → Prop) : fC c k = k c := by cases c <;> simp [fC, fN_eq, fU_eq]
theorem fCs_eq : ∀ (cs : List MC) (k : List MC → Prop), fCs cs k = k cs
  | [], k => rfl
  | c :: cs, k => by simp [fCs, fC_eq, fCs_eq cs]
theorem fV1_eq (v : MV) (k : MV → Prop) : fV1 v k = k v := by cases v <;> simp [fV1, fC_eq, fCs_eq]
theorem fVs_eq : ∀ (vs : List MV) (k : List MV → Prop), fVs vs k = k vs
  | [], k => rfl
  | v :: vs, k => by simp [fVs, fV1_eq, fVs_eq vs]
theorem fV_eq (v : MV) (k : MV → Prop) : fV v k = k v := by cases v <;> simp [fV, fV1_eq, fVs_eq]
theorem fOb_eq (o : Ob) (k : Ob → Prop) : fOb o k = k o := by cases o <;> simp [fOb, fCs_eq]
theorem fSt_eq : ∀ (st : List (Nat × Ob)) (k : List (Nat × Ob) → Prop), fSt st k = k st
  | [], k => rfl
  | (i, o) :: st, k => by simp [fSt, fN_eq, fOb_eq, fSt_eq st]
theorem fEnv_eq (env : List (Nat × MV)) (k : List (Nat × MV) → Prop) : fEnv env k = k env := by
  cases env with
  | nil => rfl
  | cons x tl =>
    obtain ⟨d, v⟩ := x
    simp only [fEnv, fN_eq, fV_eq]
    cases tl <;> rfl
theorem fS_eq (s : S) (k : S → Prop) : fS s k = k s := by
  obtain ⟨m, n, env, st⟩ := s
  simp only [fS, fN_eq, fEnv_eq, fSt_eq]

/-- What a call asks for that hands objects over. -/
def conGoal (P : Program) (s : S) (o : Oper) (K : S → Prop) : Option Hint → Op → Option Prop
  | some (.con md β cs fs C), .call c => match c.callee with
    | .value (.func f) => match passF s fs, passO md s (β ++ cs) fs (β ++ cs), passA md s (β ++ cs) fs c.args.toList with
      | some q1, some (q2, os), some ds => some (Side q1 ∧ Side q2 ∧ Chk (Oper.dok o s.m && decide ((β ++ cs) ++ fs).Nodup) ∧ Side (Con P f ds os β.length (C ds os).p (C ds os).r (C ds os).os) ∧ Side (∀ d, (C ds os).p d → likeL (os.take β.length) ((C ds os).os d)) ∧ Side (∀ d, (C ds os).p d → fixL md ((C ds os).os d)) ∧
          ∀ d, (C ds os).p d → fS ((conS md ((s.dels fs).dels cs) β ((C ds os).os d)).put o.dst (backV md s.n β ((C ds os).r d))) K)
      | _, _, _ => some False
    | _ => none
  | some (.tre fl g), .call c => match c.callee with
    | .value (.func f) => match lend s c.args.toList with
      | some (p, ds) => some (Side p ∧ Chk (Oper.dok o s.m && plainV (g ds)) ∧ Side (TPure P f ds (g ds)) ∧ ∀ B, Apart B → DisH fl s (Any B) → fS (s.put o.dst (lab true B (g ds))) K)
      | none => some False
    | _ => none
  | some (.told g), .call c => match c.callee with
    | .value (.func f) => match lend s c.args.toList with
      | some (p, ds) => some (Side p ∧ Chk (Oper.dok o s.m && frzVT (g ds)) ∧ Side (Pure P false f ds (g ds)) ∧ ∀ (B : Bk) (U : Nat → Nat → Value), Dis s B → fS (s.put o.dst (lab false (fun i j => ⟨B, U i j⟩) (g ds))) K)
      | none => some False
    | _ => none
  | some (.mark g keep upd ids ob), .call c => match c.callee with
    | .value (.func f) => match c.args.toList with
      | [x, y] => match evO s x, evO s y with
        | some mx, some (.one (.sc (.int .i64 k))) => some (Chk (Oper.dok o s.m && tsV mx) ∧ Side (Apart (tokOf mx)) ∧ Side (TMark P f (unl mx) k (g (unl mx) k).1 (g (unl mx) k).2) ∧
            markEnv (fun b => inV b mx) (cellsV (lab true (tokOf mx) (g (unl mx) k).1)) s (markE s (cellsV (lab true (tokOf mx) (g (unl mx) k).1)) keep upd) ∧
            markSt (fun b => inV b mx) (cellsV (lab true (tokOf mx) (g (unl mx) k).1)) s (markS s (cellsV (lab true (tokOf mx) (g (unl mx) k).1)) ids ob) ∧
            fS (S.put ⟨s.m, s.n, markE s (cellsV (lab true (tokOf mx) (g (unl mx) k).1)) keep upd, markS s (cellsV (lab true (tokOf mx) (g (unl mx) k).1)) ids ob⟩ o.dst (.one (.sc (.int .i64 (g (unl mx) k).2)))) K)
        | _, _ => some False
      | _ => some False
    | _ => none
  | _, _ => none
theorem conGoal_ok {s : S} {o : Oper} {K : S → Prop} {h : Option Hint} {q : Prop} (hg : conGoal P s o K h o.op = some q) (hq : q) : OpOK P o s K := by
  generalize ho : o.op = op at hg
  unfold conGoal at hg
  split at hg
  · rename_i md β cs fs C c
    split at hg
    · rename_i f hc
      split at hg
      · rename_i q1 q2 os ds h1 h2 h3
        obtain rfl := Option.some.inj hg
        obtain ⟨⟨g1⟩, ⟨g2⟩, ⟨g3⟩, ⟨g4⟩, ⟨g5⟩, ⟨g6⟩, g7⟩ := hq
        simp only [Bool.and_eq_true, decide_eq_true_eq] at g3
        obtain ⟨cc, ca, ct⟩ := c
        subst hc
        exact r_con ho g3.1 g3.2 h1 g1 h2 g2 h3 g4 g5 g6 fun d hd => by have := g7 d hd; rwa [fS_eq] at this
      · obtain rfl := Option.some.inj hg; exact hq.elim
    · cases hg
  · rename_i fl g c
    split at hg
    · rename_i f hc
      split at hg
      · rename_i p ds h1
        obtain rfl := Option.some.inj hg
        obtain ⟨⟨g1⟩, ⟨g2⟩, ⟨g3⟩, g4⟩ := hq
        simp only [Bool.and_eq_true] at g2
        obtain ⟨cc, ca, ct⟩ := c
        subst hc
        exact r_callT ho g2.1 h1 g1 g3 g2.2 fun B hB hD => by have := g4 B hB (hD.h fl); rwa [fS_eq] at this
      · obtain rfl := Option.some.inj hg; exact hq.elim
    · cases hg
  · rename_i g c
    split at hg
    · rename_i f hc
      split at hg
      · rename_i p ds h1
        obtain rfl := Option.some.inj hg
        obtain ⟨⟨g1⟩, ⟨g2⟩, ⟨g3⟩, g4⟩ := hq
        simp only [Bool.and_eq_true] at g2
        obtain ⟨cc, ca, ct⟩ := c
        subst hc
        exact r_callF ho g2.1 h1 g1 g3 g2.2 fun B U hD => by have := g4 B U hD; rwa [fS_eq] at this
      · obtain rfl := Option.some.inj hg; exact hq.elim
    · cases hg
  · rename_i g keep upd ids ob c
    split at hg
    · rename_i f hc
      split at hg
      · rename_i x y hxy
        split at hg
        · rename_i mx k hx hy
          obtain rfl := Option.some.inj hg
          obtain ⟨⟨g1⟩, ⟨g2⟩, ⟨g3⟩, g4, g5, g6⟩ := hq
          rw [fS_eq] at g6
          simp only [Bool.and_eq_true] at g1
          obtain ⟨cc, ca, ct⟩ := c
          have hca : ca = #[x, y] := by
            have := congrArg List.toArray hxy
            simpa using this
          subst hc hca
          exact r_mark (s' := S.mk s.m s.n (markE s (cellsV (lab true (tokOf mx) (g (unl mx) k).1)) keep upd) (markS s (cellsV (lab true (tokOf mx) (g (unl mx) k).1)) ids ob)) ho g1.1 hx hy g1.2 g2 g3 rfl rfl (markEnv_ok g4) (markSt_ok g5) g6
        · obtain rfl := Option.some.inj hg; exact hq.elim
      · obtain rfl := Option.some.inj hg; exact hq.elim
    · cases hg
  · cases hg

def vcStep (P : Program) (T : Tab) (hs : List (Nat × Hint)) (s : S) (o : Oper) (K : S → Prop) : Prop :=
  match conGoal P s o K (hintOf hs o.dst) o.op with
  | some q => q
  | none => match stepF P T (hintOf hs o.dst) s o with
    | none => False
    | some (p, s') => Side p ∧ fS s' K

/-- A guard's slot, said outright. -/
def S.lit (s : S) (all : Array Oper) (g : Nat) (b : Bool) : S := match (all[g]?).bind (·.dst) with
  | some d => s.put (some d) (.one (.sc (.bool b)))
  | none => s
theorem S.lit_lk {s : S} {all : Array Oper} {g : Nat} {b : Bool} (h : guardV all s g = some b) : Lk (S.lit s all g b) s := by
  unfold S.lit
  unfold guardV at h
  obtain ⟨d, hd, hm⟩ := Option.bind_eq_some_iff.1 h
  rw [hd]
  refine ⟨rfl, rfl, rfl, fun t => ?_⟩
  show look ((d, _) :: s.env) t = _
  rw [look_cons]
  split
  · rename_i e
    subst e
    split at hm
    · rename_i b' he
      obtain rfl := Option.some.inj hm
      exact he.symm
    · cases hm
  · rfl

def vcOps (P : Program) (T : Tab) (hs : List (Nat × Hint)) (all : Array Oper) : List Oper → S → (S → Prop) → Prop
  | [], s, K => K s
  | o :: rest, s, K => match o.guard with
    | none => vcStep P T hs s o fun s' => vcOps P T hs all rest s' K
    | some (g, want) => match guardV all s g with
      | none => Chk (guardU all s g) ∧ Chk (Oper.dok o s.m) ∧ fS (s.put o.dst (.tup [])) fun s' => vcOps P T hs all rest s' K
      | some b => (b = want → fS (S.lit s all g want) fun s => vcStep P T hs s o fun s' => vcOps P T hs all rest s' K) ∧
          (b = !want → fS (S.lit s all g !want) fun s => Chk (Oper.dok o s.m) ∧ fS (s.put o.dst (.tup [])) fun s' => vcOps P T hs all rest s' K)

theorem vcStep_ok {hs : List (Nat × Hint)} {s : S} {o : Oper} {K : S → Prop} (hT : TOk P T) (h : vcStep P T hs s o K) : OpOK P o s K := by
  unfold vcStep at h
  split at h
  · rename_i q hg
    exact conGoal_ok hg h
  split at h
  · exact h.elim
  · rename_i p s' hq
    rw [fS_eq] at h
    exact stepF_ok hT hq h.1.h h.2

theorem OpOK.mono {o : Oper} {s : S} {K K' : S → Prop} (h : OpOK P o s K) (hk : ∀ s, K s → K' s) : OpOK P o s K' := fun w0 wr A a w Q X hg hr k => h w0 wr A a w Q X hg hr fun s' a' w' h1 h2 => k s' a' w' h1 (hk s' h2)

theorem vcOps_ok {hs : List (Nat × Hint)} {all : Array Oper} (hT : TOk P T) : ∀ (l : List Oper) (s : S) (K : S → Prop), vcOps P T hs all l s K → Seq P all l s K
  | [], s, K, h => h
  | o :: rest, s, K, h => by
    simp only [vcOps] at h
    simp only [Seq]
    cases hg : o.guard with
    | none =>
      rw [hg] at h
      exact (vcStep_ok hT h).mono fun s' h' => vcOps_ok hT rest s' K h'
    | some q =>
      obtain ⟨g, want⟩ := q
      rw [hg] at h
      simp only at h ⊢
      cases hb : guardV all s g with
      | none =>
        rw [hb] at h
        obtain ⟨⟨h1⟩, ⟨h2⟩, h3⟩ := h
        rw [fS_eq] at h3
        exact .inr ⟨h1, h2, vcOps_ok hT rest _ K h3⟩
      | some b =>
        rw [hb] at h
        by_cases hw : b = want
        · have h1 := h.1 hw
          rw [fS_eq] at h1
          refine .inl ⟨b, _, rfl, S.lit_lk (hw ▸ hb), ?_⟩
          rw [if_pos hw]
          exact (vcStep_ok hT h1).mono fun s' h' => vcOps_ok hT rest s' K h'
        · have hw' : b = !want := by cases b <;> cases want <;> simp_all
          have h1 := h.2 hw'
          rw [fS_eq] at h1
          obtain ⟨⟨h1⟩, h2⟩ := h1
          rw [fS_eq] at h2
          refine .inl ⟨b, _, rfl, S.lit_lk (hw' ▸ hb), ?_⟩
          rw [if_neg hw]
          exact ⟨h1, vcOps_ok hT rest _ K h2⟩

/-- The end, reckoned. -/
def endF (T : Tab) (sh : Bool) (fn : Func) (r : MV) (s : S) : Prop :=
  match outR T sh s fn.results.toList r with
  | some (p, os, fs) => Side p ∧ Chk (decide os.Nodup && os.all fun i => !fs.contains i)
  | none => False

theorem endF_ok {sh : Bool} {fn : Func} {r : MV} {s : S} (h : endF T sh fn r s) : Ends T sh fn r s := by
  unfold endF at h
  split at h
  · rename_i p os fs ho
    obtain ⟨h1, ⟨h2⟩⟩ := h
    simp only [Bool.and_eq_true, decide_eq_true_eq, List.all_eq_true, Bool.not_eq_true', List.contains_eq_mem, decide_eq_false_iff_not] at h2
    exact ⟨p, os, fs, ho, h1.h, h2.1, h2.2⟩
  · exact h.elim

def endE (T : Tab) (sh : Bool) (fn : Func) (r : MV) : Exit → S → Prop
  | .normal, s => endF T sh fn r s
  | .ret, s => endF T sh fn r s
  | _, _ => False

end Mg
