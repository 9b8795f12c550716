/- Parts of the abstract state logic and of the walks, one behind the other: Mg38, Mg16, Mg17. No condition. -/
import Derived.Test.YtedgmfmhilihoaaGreatP7
import Derived.Test.YtedgmfmhilihoaaGreatP6
import Derived.ChangeArms
import Derived.OpenShut
/- The abstract state logic, part 38: calls that write what hangs on a tree. No condition. -/
namespace Mg
open Go Go.RowKit
set_option linter.unusedVariables false

variable {P : Program} {T : Tab}

/-- What a call leaves that writes the blocks N alone. -/
structure MkPost (w w' : World) (N : Bk) : Prop where
  os : w'.os = w.os
  tape : w'.tape = w.tape
  output : w'.output = w.output
  size : w.heap.size ≤ w'.heap.size
  keep : ∀ b, b < w.heap.size → ¬ N b → w'.heap[b]? = w.heap[b]?
  kc : ∀ b j, b < w.heap.size → (w.cell? ⟨b, j, none⟩).isSome = true → (w'.cell? ⟨b, j, none⟩).isSome = true

/-- A CONTRACT of a function that writes into trees. -/
def TMark (P : Program) (f : Nat) (x : MV) (k : Int) (x' : MV) (k' : Int) : Prop := Fun P f ∧
  ∀ (w : World) (v : Value) (B : Nat → Nat → Tk), RTV w (lab true B x) v → Apart B → GT P w (fun b => inV b (lab true B x)) →
    Calls P f #[v, .int .i64 k] w fun e w' => e = .returned (.int .i64 k') ∧ MkPost w w' (fun b => inV b (lab true B x)) ∧ RTV w' (lab true B x') v

def cellsV : MV → List MC
  | .one c => [c]
  | .agg cs => cs
  | _ => []
def tokC : MC → Tk
  | .tr _ B u _ => ⟨B, u⟩
  | _ => ⟨fun _ => False, undef⟩
/-- The blocks of a value's cells, by their places. -/
def tokOf (x : MV) (i j : Nat) : Tk := match i with
  | 0 => tokC ((cellsV x).getD j .dead)
  | _ + 1 => ⟨fun _ => False, undef⟩
def unlC : MC → MC
  | .tr _ _ _ rows => .fz rows
  | c => c
def unl : MV → MV
  | .one c => .one (unlC c)
  | .agg cs => .agg (cs.map unlC)
  | v => v
def tsC : MC → Bool
  | .sc _ => true
  | .tr true _ _ _ => true
  | _ => false
def tsV : MV → Bool
  | .one c => tsC c
  | .agg cs => cs.all tsC
  | _ => false

theorem labc_unl {c : MC} (h : tsC c = true) : labc true (tokC c) (unlC c) = c := by
  cases c <;> first | rfl | (cases h; done) | skip
  rename_i o B u rows
  cases o
  · cases h
  · rfl
theorem labRow_unl (B : Nat → Tk) : ∀ (cs : List MC) (k : Nat), (∀ j c, cs[j]? = some c → tsC c = true ∧ B (k + j) = tokC c) → labRow true B k (cs.map unlC) = cs
  | [], k, h => rfl
  | c :: cs, k, h => by
    have h0 := h 0 c rfl
    rw [List.map_cons, labRow, labRow_unl B cs (k + 1) fun j c hj => by
      have := h (j + 1) c hj; rw [show k + 1 + j = k + (j + 1) by omega]; exact this]
    rw [Nat.add_zero] at h0
    rw [h0.2, labc_unl h0.1]
theorem lab_unl {x : MV} (h : tsV x = true) : lab true (tokOf x) (unl x) = x := by
  cases x with
  | one c => exact congrArg MV.one (labc_unl h)
  | agg cs =>
    refine congrArg MV.agg (labRow_unl _ cs 0 fun j c hj => ⟨List.all_eq_true.1 h c (List.mem_of_getElem? hj), ?_⟩)
    show tokC (cs.getD (0 + j) .dead) = _
    rw [Nat.zero_add, List.getD_eq_getElem?_getD, hj]; rfl
  | un => cases h
  | tup _ => cases h

theorem RC.rt {st : Sto} {L : Lay} {w : World} {F : FF} {c : MC} {v : Value} (h : RC st L w F c v) (ht : tsC c = true) : RT w c v ∧ ∀ b, inC b c → F.n b ∧ ¬ F.a b := by
  cases c <;> first | (cases ht; done) | skip
  · exact ⟨h, fun b hb => hb.elim⟩
  · rename_i o B u rows
    cases o
    · cases ht
    · exact ⟨⟨h.1, h.2.2⟩, fun b hb => (h.2.1 b hb).2 rfl⟩
theorem RV.rt {st : Sto} {L : Lay} {w : World} {F : FF} {x : MV} {v : Value} (h : RV st L w F x v) (ht : tsV x = true) : RTV w x v ∧ ∀ b, inV b x → F.n b ∧ ¬ F.a b := by
  cases x with
  | one c => exact RC.rt h ht
  | agg cs =>
    obtain ⟨arr, rfl, h1, h2⟩ := h
    refine ⟨⟨arr, rfl, h1, fun j c hj => ?_⟩, fun b ⟨c, hc, hb⟩ => ?_⟩
    · obtain ⟨u, hu, hr⟩ := h2 j c hj
      exact ⟨u, hu, (hr.rt (List.all_eq_true.1 ht c (List.mem_of_getElem? hj))).1⟩
    · obtain ⟨j, hj⟩ := List.getElem?_of_mem hc
      obtain ⟨u, hu, hr⟩ := h2 j c hj
      exact (hr.rt (List.all_eq_true.1 ht c hc)).2 b hb
  | un => cases ht
  | tup _ => cases ht

/-- A cell behind a call that writes the blocks N, where what was handed over now reads as ys. -/
inductive UpC (N : Bk) (ys : List MC) : MC → MC → Prop
  | dead : UpC N ys .dead .dead
  | sc (v : Value) : UpC N ys (.sc v) (.sc v)
  | nil : UpC N ys .nil .nil
  | ref (i off len : Nat) : UpC N ys (.ref i off len) (.ref i off len)
  | ptr (i r off : Nat) : UpC N ys (.ptr i r off) (.ptr i r off)
  | tr (o : Bool) (B : Bk) (u : Value) (rows : List (List MC)) (h : ∀ x, B x → ¬ N x) : UpC N ys (.tr o B u rows) (.tr o B u rows)
  | mk (B : Bk) (u : Value) (rows rows' : List (List MC)) (h : .tr true B u rows' ∈ ys) : UpC N ys (.tr true B u rows) (.tr true B u rows')
def UpL (N : Bk) (ys : List MC) : List MC → List MC → Prop
  | [], [] => True
  | c :: cs, d :: ds => Side (UpC N ys c d) ∧ UpL N ys cs ds
  | _, _ => False
theorem UpL.get {N : Bk} {ys : List MC} : ∀ {cs ds : List MC}, UpL N ys cs ds → cs.length = ds.length ∧ ∀ (j : Nat) (d : MC), ds[j]? = some d → ∃ c, cs[j]? = some c ∧ UpC N ys c d
  | [], [], _ => ⟨rfl, fun j d hj => by simp at hj⟩
  | c :: cs, d :: ds, h => by
    obtain ⟨h1, h2⟩ := UpL.get h.2
    refine ⟨by simp [h1], fun j x hj => ?_⟩
    cases j with
    | zero => obtain rfl := Option.some.inj hj; exact ⟨c, rfl, h.1.h⟩
    | succ j => exact h2 j x hj
  | [], _ :: _, h => h.elim
  | _ :: _, [], h => h.elim
def UpV (N : Bk) (ys : List MC) : MV → MV → Prop
  | .one c, .one d => Side (UpC N ys c d)
  | .agg cs, .agg ds => UpL N ys cs ds
  | _, _ => False
def UpR (N : Bk) (ys : List MC) (rows rows' : List (List MC)) : Prop :=
  rows.length = rows'.length ∧ ∀ (i : Nat) (r' : List MC), rows'[i]? = some r' → ∃ r, rows[i]? = some r ∧ r.length = r'.length ∧ ∀ (j : Nat) (d : MC), r'[j]? = some d → ∃ c, r[j]? = some c ∧ UpC N ys c d
def UpO (N : Bk) (ys : List MC) : Ob → Ob → Prop
  | .box cs, .box ds => UpL N ys cs ds
  | .arr rows, .arr rows' => Side (UpR N ys rows rows')
  | _, _ => False

theorem UpC.bd {N : Bk} {ys : List MC} {c d : MC} {n : Nat} (h : UpC N ys c d) (hb : c.bd n) : d.bd n := by cases h <;> first | exact hb | trivial

theorem UpC.rc {N : Bk} {ys : List MC} {st st' : Sto} {L : Lay} {w w' : World} {F : FF} {c d : MC} {v : Value} (h : UpC N ys c d) (hr : RC st L w F c v)
    (hst : ∀ id, (st' id = none ∧ True) ∨ (∃ cs ds, st id = some (.box cs) ∧ st' id = some (.box ds)) ∨ (∃ rows rows', st id = some (.arr rows) ∧ st' id = some (.arr rows') ∧ rows.length = rows'.length))
    (hw : ∀ b, F.all b → ¬ N b → w'.heap[b]? = w.heap[b]?) (hc : ∀ b j, (w.cell? ⟨b, j, none⟩).isSome = true → b < w.heap.size → (w'.cell? ⟨b, j, none⟩).isSome = true)
    (hl : ∀ id b t, (st id).isSome = true → L id = some (b, t) → b < w.heap.size)
    (hy : ∀ B u rows, .tr true B u rows ∈ ys → TR w' (.fz rows) u B) : RC st' L w' F d v := by
  cases h with
  | dead => exact hr
  | sc v => exact hr
  | nil => exact hr
  | ref id off len =>
    refine ⟨hr.1, fun rows' hs => ?_⟩
    rcases hst id with ⟨h0, _⟩ | ⟨cs, ds, _, h0⟩ | ⟨rows, rows2, h1, h2, h3⟩
    · rw [h0] at hs; cases hs
    · rw [h0] at hs; cases hs
    · rw [h2] at hs
      obtain rfl := Ob.arr.inj (Option.some.inj hs)
      obtain ⟨a, cap, hv, hle, hx⟩ := hr.2 rows h1
      refine ⟨a, cap, hv, by omega, hx.imp (fun ⟨b, s, g1, g2, g3, g4, g5⟩ => ⟨b, s, g1, g2, g3, fun e => g4 (List.eq_nil_of_length_eq_zero (by rw [h3, e]; rfl)), fun j hj => hc b j (g5 j hj) (hl id b s (by rw [h1]; rfl) g1)⟩) fun h => h⟩
  | ptr id r off =>
    refine ⟨hr.1, fun hs => hr.2 ?_⟩
    rcases hst id with ⟨h0, _⟩ | ⟨cs, ds, h0, _⟩ | ⟨rows, rows2, h1, _, _⟩
    · rw [h0] at hs; cases hs
    · rw [h0]; rfl
    · rw [h1]; rfl
  | tr o B u rows h => exact ⟨hr.1, hr.2.1, hr.2.2.mono fun b hb => hw b (hr.2.1 b hb).1 (h b hb)⟩
  | mk B u rows rows' h => exact ⟨hr.1, hr.2.1, by rw [hr.1]; exact hy B u rows' h⟩

/-- A CALL that writes into trees. -/
theorem r_mark {o : Oper} {s s' : S} {K : S → Prop} {f : Nat} {x y : Operand} {ts : Array TypeId} {mx : MV} {k k' : Int} {X' : MV} (ho : o.op = .call { callee := .value (.func f), args := #[x, y], argTypes := ts })
    (hd : Oper.dok o s.m = true) (hx : evO s x = some mx) (hy : evO s y = some (.one (.sc (.int .i64 k)))) (hts : tsV mx = true) (hap : Apart (tokOf mx)) (hc : TMark P f (unl mx) k X' k')
    (hm : s'.m = s.m) (hn : s'.n = s.n) (henv : ∀ t v', look s'.env t = some v' → ∃ v, look s.env t = some v ∧ UpV (fun b => inV b mx) (cellsV (lab true (tokOf mx) X')) v v')
    (hst : ∀ id o', look s'.st id = some o' → ∃ o, look s.st id = some o ∧ UpO (fun b => inV b mx) (cellsV (lab true (tokOf mx) X')) o o') (k0 : K (s'.put o.dst (.one (.sc (.int .i64 k'))))) : OpOK P o s K := by
  intro w0 wr A a w Q K' hg ⟨L, F, hR⟩ hK
  obtain ⟨⟨fn, hfn, hname, hbody⟩, hc⟩ := hc
  obtain ⟨h1, _⟩ := evO_ok hR hx
  obtain ⟨⟨h2, _⟩, _⟩ := evO_ok hR hy
  obtain ⟨hrt, hF⟩ := RV.rt h1 hts
  have hrun : (execOp a.eval o).run P w = .ok (.enter f (#[x, y].map a.eval)) w := by
    simp only [execOp, ho, resolve, Act.eval, Deferred.ofValue, Sem.run_bind, Sem.run_pure, Result.andThen_ok, invoke, callFunc, run_program, hfn, hname, hbody]
    simp
  unfold Oper.wp
  rw [hrun]
  show Calls P f (#[x, y].map a.eval) w _
  have hargs : (#[x, y].map a.eval) = #[a.eval x, .int .i64 k] := by simp [h2]
  rw [hargs]
  have hlab := lab_unl hts
  have hN : ∀ b, inV b mx → b < w.heap.size ∧ (w0.heap.size ≤ b ∨ wr b) := fun b hb => by
    obtain ⟨g1, g2⟩ := hF b hb
    refine ⟨hR.fsz b (.inl g1), ?_⟩
    rcases hR.fn b g1 with g | g | g
    · exact .inl g
    · exact .inr g
    · exact absurd (by rw [hR.fa]; exact hg.oa b g) g2
  have hcall := hc w (a.eval x) (tokOf mx) (by rw [hlab]; exact hrt) hap (by
    rw [hlab]
    exact hg.gt.move hR.size fun g g1 g2 => ⟨hR.keep g g1 g2, fun hb => by
      rcases (hN g hb).2 with g3 | g3
      · omega
      · exact g2 g3⟩)
  rw [hlab] at hcall
  refine hcall.mono fun e w' ⟨he, hp, hrt'⟩ => ?_
  subst he
  have hys : ∀ B u rows, .tr true B u rows ∈ cellsV (lab true (tokOf mx) X') → TR w' (.fz rows) u B := fun B u rows hmem => by
    generalize lab true (tokOf mx) X' = yv at *
    cases yv with
    | one c =>
      obtain rfl : .tr true B u rows = c := by simpa [cellsV] using hmem
      have h1 : a.eval x = u ∧ TR w' (.fz rows) (a.eval x) B := hrt'
      rw [← h1.1]; exact h1.2
    | agg cs =>
      obtain ⟨arr, _, _, g⟩ := hrt'
      obtain ⟨j, hj⟩ := List.getElem?_of_mem hmem
      obtain ⟨uu, _, g3⟩ := g j _ hj
      have h1 : uu = u ∧ TR w' (.fz rows) uu B := g3
      rw [← h1.1]; exact h1.2
    | un => cases hmem
    | tup _ => cases hmem
  have hcases : ∀ id, (look s'.st id = none ∧ True) ∨ (∃ cs ds, look s.st id = some (.box cs) ∧ look s'.st id = some (.box ds)) ∨ (∃ rows rows', look s.st id = some (.arr rows) ∧ look s'.st id = some (.arr rows') ∧ rows.length = rows'.length) := fun id => by
    cases hid : look s'.st id with
    | none => exact .inl ⟨rfl, trivial⟩
    | some o' =>
      obtain ⟨o1, g1, g2⟩ := hst id o' hid
      cases o1 with
      | box cs => cases o' with
        | box ds => exact .inr (.inl ⟨cs, ds, g1, rfl⟩)
        | arr r => exact g2.elim
      | arr r => cases o' with
        | box ds => exact g2.elim
        | arr r' => exact .inr (.inr ⟨r, r', g1, rfl, g2.h.1⟩)
  have hsome : ∀ id, (look s'.st id).isSome = true → (look s.st id).isSome = true := fun id hid => by
    obtain ⟨o', ho'⟩ := Option.isSome_iff_exists.1 hid
    obtain ⟨o1, g1, _⟩ := hst id o' ho'
    rw [g1]; rfl
  have hrc : ∀ {c d : MC} {v : Value}, UpC (fun b => inV b mx) (cellsV (lab true (tokOf mx) X')) c d → RC (look s.st) L w F c v → RC (look s'.st) L w' F d v := fun hu hr =>
    hu.rc hr hcases (fun b hb hnb => hp.keep b (hR.fsz b hb) hnb) (fun b j h1 h2 => hp.kc b j h2 h1) (fun id b t h1 h2 => (hR.own id b t h1 h2).2.1) hys
  have hroot : ∀ id b t, (look s.st id).isSome = true → L id = some (b, t) → w'.heap[b]? = w.heap[b]? := fun id b t h3 h4 => by
    have := hR.own id b t h3 h4
    exact hp.keep b this.2.1 fun hb => this.1 (.inl (hF b hb).1)
  have hRl : Rl w0 wr A L F s' a w' := by
    refine ⟨hp.os.trans hR.os, hp.tape.trans hR.tape, hp.output.trans hR.output, Nat.le_trans hR.size hp.size, fun b hb hnb => ?_, fun b j hb hj => hp.kc b j (Nat.lt_of_lt_of_le hb hR.size) (hR.kc b j hb hj), fun i hi => by rw [hn]; exact hR.pin i hi, hR.fa, hR.fn, fun b hb => Nat.lt_of_lt_of_le (hR.fsz b hb) hp.size,
      fun id o' ho' => ?_, fun id b t h3 h4 => ?_, fun i j b t u h3 h4 h5 h6 => hR.inj i j b t u (hsome i h3) (hsome j h4) h5 h6, hR.sz.trans hm.symm, fun t v' hv' => ?_, fun id o' ho' => ?_, fun t v' hv' => ?_, hR.df⟩
    · have hb' := Nat.lt_of_lt_of_le hb hR.size
      rw [hp.keep b hb' fun hx => by
        rcases (hN b hx).2 with g | g
        · omega
        · exact hnb g]
      exact hR.keep b hb hnb
    · obtain ⟨o1, g1, g2⟩ := hst id o' ho'
      have hob := hR.ob id o1 g1
      cases o1 with
      | box cs => cases o' with
        | arr r => exact g2.elim
        | box ds =>
          obtain ⟨b, t, h3, h4, h5⟩ := hob
          have hbb := hroot id b t (by rw [g1]; rfl) h3
          refine ⟨b, t, h3, fun j => by rw [World.frozen?_of_block (w := w) hbb]; exact h4 j, fun j d hj => ?_⟩
          obtain ⟨c, hcj, hu⟩ := (UpL.get g2).2 j d hj
          obtain ⟨u, hu1, hu2⟩ := h5 j c hcj
          exact ⟨u, by rw [World.cell?_of_block (w := w) hbb]; exact hu1, hrc hu hu2⟩
      | arr r => cases o' with
        | box ds => exact g2.elim
        | arr r' =>
          rcases hob with ⟨h3, h4⟩ | ⟨b, t, h3, h4, h5, h6⟩
          · exact .inl ⟨List.eq_nil_of_length_eq_zero (by rw [← g2.h.1, h3]; rfl), h4⟩
          · have hbb := hroot id b t (by rw [g1]; rfl) h3
            refine .inr ⟨b, t, h3, fun j => by rw [World.frozen?_of_block (w := w) hbb]; exact h4 j, fun rr hrr => ?_, fun i rr hi j d hj => ?_⟩
            · obtain ⟨i, hi⟩ := List.getElem?_of_mem hrr
              obtain ⟨r0, hr0, hl, _⟩ := g2.h.2 i rr hi
              rw [← hl]; exact h5 r0 (List.mem_of_getElem? hr0)
            · obtain ⟨r0, hr0, hl, hup⟩ := g2.h.2 i rr hi
              obtain ⟨c, hcj, hu⟩ := hup j d hj
              obtain ⟨u, hu1, hu2⟩ := h6 i r0 hr0 j c hcj
              exact ⟨u, by rw [World.cell?_of_block (w := w) hbb]; exact hu1, hrc hu hu2⟩
    · have := hR.own id b t (hsome id h3) h4
      exact ⟨this.1, Nat.lt_of_lt_of_le this.2.1 hp.size, this.2.2⟩
    · obtain ⟨v, g1, g2⟩ := henv t v' hv'
      have hv := hR.env t v g1
      cases v with
      | one c => cases v' with
        | one d => exact hrc g2.h hv
        | _ => exact g2.elim
      | agg cs => cases v' with
        | agg ds =>
          obtain ⟨arr, h3, h4, h5⟩ := hv
          obtain ⟨h6, h7⟩ := UpL.get g2
          refine ⟨arr, h3, h4.trans h6, fun j d hj => ?_⟩
          obtain ⟨c, hcj, hu⟩ := h7 j d hj
          obtain ⟨u, hu1, hu2⟩ := h5 j c hcj
          exact ⟨u, hu1, hrc hu hu2⟩
        | _ => exact g2.elim
      | un => exact g2.elim
      | tup _ => exact g2.elim
    · obtain ⟨o1, g1, g2⟩ := hst id o' ho'
      obtain ⟨h3, h4⟩ := hR.bst id o1 g1
      rw [hn]
      refine ⟨h3, ?_⟩
      cases o1 with
      | box cs => cases o' with
        | arr r => exact g2.elim
        | box ds =>
          intro d hd'
          obtain ⟨j, hj⟩ := List.getElem?_of_mem hd'
          obtain ⟨c, hcj, hu⟩ := (UpL.get g2).2 j d hj
          exact hu.bd (h4 c (List.mem_of_getElem? hcj))
      | arr r => cases o' with
        | box ds => exact g2.elim
        | arr r' =>
          intro rr hrr d hd'
          obtain ⟨i, hi⟩ := List.getElem?_of_mem hrr
          obtain ⟨r0, hr0, hl, hup⟩ := g2.h.2 i rr hi
          obtain ⟨j, hj⟩ := List.getElem?_of_mem hd'
          obtain ⟨c, hcj, hu⟩ := hup j d hj
          exact hu.bd (h4 r0 (List.mem_of_getElem? hr0) c (List.mem_of_getElem? hcj))
    · obtain ⟨v, g1, g2⟩ := henv t v' hv'
      have hb := hR.ben t v g1
      rw [hn]
      cases v with
      | one c => cases v' with
        | one d => exact UpC.bd g2.h hb
        | _ => exact g2.elim
      | agg cs => cases v' with
        | agg ds =>
          intro d hd'
          obtain ⟨j, hj⟩ := List.getElem?_of_mem hd'
          obtain ⟨c, hcj, hu⟩ := (UpL.get g2).2 j d hj
          exact hu.bd (hb c (List.mem_of_getElem? hcj))
        | _ => exact g2.elim
      | un => exact g2.elim
      | tup _ => exact g2.elim
  exact hK _ _ _ ⟨L, F, hRl.put (fun x hx => by rw [hm]; exact Oper.dok_spec hd x hx) (v := .one (.sc (.int .i64 k'))) ⟨rfl, rfl⟩ trivial⟩ k0

/- ------------------------------------------------ the state behind it, reckoned -/
def substL (ys : List MC) : List (Nat × Nat) → List MC → List MC
  | [], cs => cs
  | (i, j) :: ps, cs => substL ys ps (cs.set i (ys.getD j .dead))
def substV (ys : List MC) (ps : List (Nat × Nat)) : MV → MV
  | .one c => match ps with
    | (_, j) :: _ => .one (ys.getD j .dead)
    | [] => .one c
  | .agg cs => .agg (substL ys ps cs)
  | v => v
def markK (s : S) : List Nat → List (Nat × MV) → List (Nat × MV)
  | [], l => l
  | t :: ts, l => match look s.env t with
    | some v => (t, v) :: markK s ts l
    | none => markK s ts l
def markU (s : S) (ys : List MC) : List (Nat × List (Nat × Nat)) → List (Nat × MV)
  | [] => []
  | (t, ps) :: ts => match look s.env t with
    | some v => (t, substV ys ps v) :: markU s ys ts
    | none => markU s ys ts
def markE (s : S) (ys : List MC) (keep : List Nat) (upd : List (Nat × List (Nat × Nat))) : List (Nat × MV) := markK s keep (markU s ys upd)
def markO (ys : List MC) (id : Nat) : List (Nat × Nat × Nat) → Ob → Ob
  | [], o => o
  | (id', i, j) :: l, o => match o with
    | .box cs => if id' = id then markO ys id l (.box (cs.set j (ys.getD i .dead))) else markO ys id l o
    | .arr rows => if id' = id then markO ys id l (.arr (rows.set i ((rows.getD i []).set j (ys.getD 0 .dead)))) else markO ys id l o
def markS (s : S) (ys : List MC) : List Nat → List (Nat × Nat × Nat) → List (Nat × Ob)
  | [], _ => []
  | id :: ids, ob => match look s.st id with
    | some o => (id, markO ys id ob o) :: markS s ys ids ob
    | none => markS s ys ids ob
def markEnv (N : Bk) (ys : List MC) (s : S) : List (Nat × MV) → Prop
  | [] => True
  | (t, v') :: l => (match look s.env t with
    | some v => UpV N ys v v'
    | none => False) ∧ markEnv N ys s l
def markSt (N : Bk) (ys : List MC) (s : S) : List (Nat × Ob) → Prop
  | [] => True
  | (id, o') :: l => (match look s.st id with
    | some o => UpO N ys o o'
    | none => False) ∧ markSt N ys s l
theorem markEnv_ok {N : Bk} {ys : List MC} {s : S} : ∀ {l : List (Nat × MV)}, markEnv N ys s l → ∀ t v', look l t = some v' → ∃ v, look s.env t = some v ∧ UpV N ys v v'
  | [], _, t, v', h => by simp at h
  | (k, x) :: l, hl, t, v', h => by
    rw [look_cons] at h
    by_cases e : t = k
    · rw [if_pos e] at h
      obtain rfl := Option.some.inj h
      subst e
      have := hl.1
      split at this
      · rename_i v hv; exact ⟨v, hv, this⟩
      · exact this.elim
    · rw [if_neg e] at h; exact markEnv_ok hl.2 t v' h
theorem markSt_ok {N : Bk} {ys : List MC} {s : S} : ∀ {l : List (Nat × Ob)}, markSt N ys s l → ∀ id o', look l id = some o' → ∃ o, look s.st id = some o ∧ UpO N ys o o'
  | [], _, t, v', h => by simp at h
  | (k, x) :: l, hl, t, v', h => by
    rw [look_cons] at h
    by_cases e : t = k
    · rw [if_pos e] at h
      obtain rfl := Option.some.inj h
      subst e
      have := hl.1
      split at this
      · rename_i v hv; exact ⟨v, hv, this⟩
      · exact this.elim
    · rw [if_neg e] at h; exact markSt_ok hl.2 t v' h

end Mg

/- The abstract state logic, part 16: what a piece of code asks for, reckoned. No condition. -/
namespace Mg
open Go Go.RowKit
set_option linter.unusedVariables false

variable {P : Program} {T : Tab}

def hintOf (hs : List (Nat × Hint)) : Option Nat → Option Hint
  | none => none
  | some d => look hs d

/- FORCING: each state is brought into plain form before it is handed on. -/
def fN (n : Nat) (k : Nat → Prop) : Prop := match n with
  | 0 => k 0
  | n + 1 => k (n + 1)
def fU (v : Value) (k : Value → Prop) : Prop := match v with
  | .int i n => k (.int i n)
  | .bool b => k (.bool b)
  | .string b => k (.string b)
  | v => k v
def fC (c : MC) (k : MC → Prop) : Prop := match c with
  | .dead => k .dead
  | .sc v => fU v fun v => k (.sc v)
  | .nil => k .nil
  | .fz r => k (.fz r)
  | .own r => k (.own r)
  | .ref i o l => fN i fun i => k (.ref i o l)
  | .ptr i r o => fN i fun i => k (.ptr i r o)
  | .fptr r => k (.fptr r)
  | .ag r => k (.ag r)
  | .aptr r => k (.aptr r)
  | .tr o B u r => k (.tr o B u r)
def fCs (cs : List MC) (k : List MC → Prop) : Prop := match cs with
  | [] => k []
  | c :: cs => fC c fun c => fCs cs fun cs => k (c :: cs)
def fV1 (v : MV) (k : MV → Prop) : Prop := match v with
  | .un => k .un
  | .one c => fC c fun c => k (.one c)
  | .agg cs => fCs cs fun cs => k (.agg cs)
  | .tup vs => k (.tup vs)
def fVs (vs : List MV) (k : List MV → Prop) : Prop := match vs with
  | [] => k []
  | v :: vs => fV1 v fun v => fVs vs fun vs => k (v :: vs)
def fV (v : MV) (k : MV → Prop) : Prop := match v with
  | .tup vs => fVs vs fun vs => k (.tup vs)
  | v => fV1 v k
def fOb (o : Ob) (k : Ob → Prop) : Prop := match o with
  | .box cs => fCs cs fun cs => k (.box cs)
  | .arr rows => k (.arr rows)
def fSt (st : List (Nat × Ob)) (k : List (Nat × Ob) → Prop) : Prop := match st with
  | [] => k []
  | (i, o) :: st => fN i fun i => fOb o fun o => fSt st fun st => k ((i, o) :: st)
def fOp (d : Option Nat) (k : Option Nat → Prop) : Prop := match d with
  | none => k none
  | some d => k (some d)
def fEnv (env : List (Nat × MV)) (k : List (Nat × MV) → Prop) : Prop := match env with
  | [] => k []
  | (d, v) :: tl => fN d fun d => fV v fun v => match tl with
    | [] => k [(d, v)]
    | x :: xs => k ((d, v) :: x :: xs)
def fS (s : S) (k : S → Prop) : Prop := match s with
  | ⟨m, n, env, st⟩ => fN m fun m => fN n fun n => fEnv env fun env => fSt st fun st => k ⟨m, n, env, st⟩

theorem fN_eq (n : Nat) (k : Nat → Prop) : fN n k = k n := by cases n <;> rfl
theorem fU_eq (v : Value) (k : Value → Prop) : fU v k = k v := by cases v <;> rfl
theorem fC_eq (c : MC) (k : MC → Prop) : fC c k = k c := by cases c <;> simp [fC, fN_eq, fU_eq]
theorem fCs_eq : ∀ (cs : List MC) (k : List MC → Prop), fCs cs k = k cs
  | [], k => rfl
  | c :: cs, k => by simp [fCs, fC_eq, fCs_eq cs]
theorem fV1_eq (v : MV) (k : MV → Prop) : fV1 v k = k v := by cases v <;> simp [fV1, fC_eq, fCs_eq]
theorem fVs_eq : ∀ (vs : List MV) (k : List MV → Prop), fVs vs k = k vs
  | [], k => rfl
  | v :: vs, k => by simp [fVs, fV1_eq, fVs_eq vs]
theorem fV_eq (v : MV) (k : MV → Prop) : fV v k = k v := by cases v <;> simp [fV, fV1_eq, fVs_eq]
theorem fOb_eq (o : Ob) (k : Ob → Prop) : fOb o k = k o := by cases o <;> simp [fOb, fCs_eq]
theorem fSt_eq : ∀ (st : List (Nat × Ob)) (k : List (Nat × Ob) → Prop), fSt st k = k st
  | [], k => rfl
  | (i, o) :: st, k => by simp [fSt, fN_eq, fOb_eq, fSt_eq st]
theorem fEnv_eq (env : List (Nat × MV)) (k : List (Nat × MV) → Prop) : fEnv env k = k env := by
  cases env with
  | nil => rfl
  | cons x tl =>
    obtain ⟨d, v⟩ := x
    simp only [fEnv, fN_eq, fV_eq]
    cases tl <;> rfl
theorem fS_eq (s : S) (k : S → Prop) : fS s k = k s := by
  obtain ⟨m, n, env, st⟩ := s
  simp only [fS, fN_eq, fEnv_eq, fSt_eq]

/-- What a call asks for that hands objects over. -/
def conGoal (P : Program) (s : S) (o : Oper) (K : S → Prop) : Option Hint → Op → Option Prop
  | some (.con md β cs fs C), .call c => match c.callee with
    | .value (.func f) => match passF s fs, passO md s (β ++ cs) fs (β ++ cs), passA md s (β ++ cs) fs c.args.toList with
      | some q1, some (q2, os), some ds => some (Side q1 ∧ Side q2 ∧ Chk (Oper.dok o s.m && decide ((β ++ cs) ++ fs).Nodup) ∧ Side (Con P f ds os β.length (C ds os).p (C ds os).r (C ds os).os) ∧ Side (∀ d, (C ds os).p d → likeL (os.take β.length) ((C ds os).os d)) ∧ Side (∀ d, (C ds os).p d → fixL md ((C ds os).os d)) ∧
          ∀ d, (C ds os).p d → fS ((conS md ((s.dels fs).dels cs) β ((C ds os).os d)).put o.dst (backV md s.n β ((C ds os).r d))) K)
      | _, _, _ => some False
    | _ => none
  | some (.tre fl g), .call c => match c.callee with
    | .value (.func f) => match lend s c.args.toList with
      | some (p, ds) => some (Side p ∧ Chk (Oper.dok o s.m && plainV (g ds)) ∧ Side (TPure P f ds (g ds)) ∧ ∀ B, Apart B → DisH fl s (Any B) → fS (s.put o.dst (lab true B (g ds))) K)
      | none => some False
    | _ => none
  | some (.told g), .call c => match c.callee with
    | .value (.func f) => match lend s c.args.toList with
      | some (p, ds) => some (Side p ∧ Chk (Oper.dok o s.m && frzVT (g ds)) ∧ Side (Pure P false f ds (g ds)) ∧ ∀ (B : Bk) (U : Nat → Nat → Value), Dis s B → fS (s.put o.dst (lab false (fun i j => ⟨B, U i j⟩) (g ds))) K)
      | none => some False
    | _ => none
  | some (.mark g keep upd ids ob), .call c => match c.callee with
    | .value (.func f) => match c.args.toList with
      | [x, y] => match evO s x, evO s y with
        | some mx, some (.one (.sc (.int .i64 k))) => some (Chk (Oper.dok o s.m && tsV mx) ∧ Side (Apart (tokOf mx)) ∧ Side (TMark P f (unl mx) k (g (unl mx) k).1 (g (unl mx) k).2) ∧
            markEnv (fun b => inV b mx) (cellsV (lab true (tokOf mx) (g (unl mx) k).1)) s (markE s (cellsV (lab true (tokOf mx) (g (unl mx) k).1)) keep upd) ∧
            markSt (fun b => inV b mx) (cellsV (lab true (tokOf mx) (g (unl mx) k).1)) s (markS s (cellsV (lab true (tokOf mx) (g (unl mx) k).1)) ids ob) ∧
            fS (S.put ⟨s.m, s.n, markE s (cellsV (lab true (tokOf mx) (g (unl mx) k).1)) keep upd, markS s (cellsV (lab true (tokOf mx) (g (unl mx) k).1)) ids ob⟩ o.dst (.one (.sc (.int .i64 (g (unl mx) k).2)))) K)
        | _, _ => some False
      | _ => some False
    | _ => none
  | _, _ => none
theorem conGoal_ok {s : S} {o : Oper} {K : S → Prop} {h : Option Hint} {q : Prop} (hg : conGoal P s o K h o.op = some q) (hq : q) : OpOK P o s K := by
  generalize ho : o.op = op at hg
  unfold conGoal at hg
  split at hg
  · rename_i md β cs fs C c
    split at hg
    · rename_i f hc
      split at hg
      · rename_i q1 q2 os ds h1 h2 h3
        obtain rfl := Option.some.inj hg
        obtain ⟨⟨g1⟩, ⟨g2⟩, ⟨g3⟩, ⟨g4⟩, ⟨g5⟩, ⟨g6⟩, g7⟩ := hq
        simp only [Bool.and_eq_true, decide_eq_true_eq] at g3
        obtain ⟨cc, ca, ct⟩ := c
        subst hc
        exact r_con ho g3.1 g3.2 h1 g1 h2 g2 h3 g4 g5 g6 fun d hd => by have := g7 d hd; rwa [fS_eq] at this
      · obtain rfl := Option.some.inj hg; exact hq.elim
    · cases hg
  · rename_i fl g c
    split at hg
    · rename_i f hc
      split at hg
      · rename_i p ds h1
        obtain rfl := Option.some.inj hg
        obtain ⟨⟨g1⟩, ⟨g2⟩, ⟨g3⟩, g4⟩ := hq
        simp only [Bool.and_eq_true] at g2
        obtain ⟨cc, ca, ct⟩ := c
        subst hc
        exact r_callT ho g2.1 h1 g1 g3 g2.2 fun B hB hD => by have := g4 B hB (hD.h fl); rwa [fS_eq] at this
      · obtain rfl := Option.some.inj hg; exact hq.elim
    · cases hg
  · rename_i g c
    split at hg
    · rename_i f hc
      split at hg
      · rename_i p ds h1
        obtain rfl := Option.some.inj hg
        obtain ⟨⟨g1⟩, ⟨g2⟩, ⟨g3⟩, g4⟩ := hq
        simp only [Bool.and_eq_true] at g2
        obtain ⟨cc, ca, ct⟩ := c
        subst hc
        exact r_callF ho g2.1 h1 g1 g3 g2.2 fun B U hD => by have := g4 B U hD; rwa [fS_eq] at this
      · obtain rfl := Option.some.inj hg; exact hq.elim
    · cases hg
  · rename_i g keep upd ids ob c
    split at hg
    · rename_i f hc
      split at hg
      · rename_i x y hxy
        split at hg
        · rename_i mx k hx hy
          obtain rfl := Option.some.inj hg
          obtain ⟨⟨g1⟩, ⟨g2⟩, ⟨g3⟩, g4, g5, g6⟩ := hq
          rw [fS_eq] at g6
          simp only [Bool.and_eq_true] at g1
          obtain ⟨cc, ca, ct⟩ := c
          have hca : ca = #[x, y] := by
            have := congrArg List.toArray hxy
            simpa using this
          subst hc hca
          exact r_mark (s' := S.mk s.m s.n (markE s (cellsV (lab true (tokOf mx) (g (unl mx) k).1)) keep upd) (markS s (cellsV (lab true (tokOf mx) (g (unl mx) k).1)) ids ob)) ho g1.1 hx hy g1.2 g2 g3 rfl rfl (markEnv_ok g4) (markSt_ok g5) g6
        · obtain rfl := Option.some.inj hg; exact hq.elim
      · obtain rfl := Option.some.inj hg; exact hq.elim
    · cases hg
  · cases hg

def vcStep (P : Program) (T : Tab) (hs : List (Nat × Hint)) (s : S) (o : Oper) (K : S → Prop) : Prop :=
  match conGoal P s o K (hintOf hs o.dst) o.op with
  | some q => q
  | none => match stepF P T (hintOf hs o.dst) s o with
    | none => False
    | some (p, s') => Side p ∧ fS s' K

/-- A guard's slot, said outright. -/
def S.lit (s : S) (all : Array Oper) (g : Nat) (b : Bool) : S := match (all[g]?).bind (·.dst) with
  | some d => s.put (some d) (.one (.sc (.bool b)))
  | none => s
theorem S.lit_lk {s : S} {all : Array Oper} {g : Nat} {b : Bool} (h : guardV all s g = some b) : Lk (S.lit s all g b) s := by
  unfold S.lit
  unfold guardV at h
  obtain ⟨d, hd, hm⟩ := Option.bind_eq_some_iff.1 h
  rw [hd]
  refine ⟨rfl, rfl, rfl, fun t => ?_⟩
  show look ((d, _) :: s.env) t = _
  rw [look_cons]
  split
  · rename_i e
    subst e
    split at hm
    · rename_i b' he
      obtain rfl := Option.some.inj hm
      exact he.symm
    · cases hm
  · rfl

def vcOps (P : Program) (T : Tab) (hs : List (Nat × Hint)) (all : Array Oper) : List Oper → S → (S → Prop) → Prop
  | [], s, K => K s
  | o :: rest, s, K => match o.guard with
    | none => vcStep P T hs s o fun s' => vcOps P T hs all rest s' K
    | some (g, want) => match guardV all s g with
      | none => Chk (guardU all s g) ∧ Chk (Oper.dok o s.m) ∧ fS (s.put o.dst (.tup [])) fun s' => vcOps P T hs all rest s' K
      | some b => (b = want → fS (S.lit s all g want) fun s => vcStep P T hs s o fun s' => vcOps P T hs all rest s' K) ∧
          (b = !want → fS (S.lit s all g !want) fun s => Chk (Oper.dok o s.m) ∧ fS (s.put o.dst (.tup [])) fun s' => vcOps P T hs all rest s' K)

theorem vcStep_ok {hs : List (Nat × Hint)} {s : S} {o : Oper} {K : S → Prop} (hT : TOk P T) (h : vcStep P T hs s o K) : OpOK P o s K := by
  unfold vcStep at h
  split at h
  · rename_i q hg
    exact conGoal_ok hg h
  split at h
  · exact h.elim
  · rename_i p s' hq
    rw [fS_eq] at h
    exact stepF_ok hT hq h.1.h h.2

theorem OpOK.mono {o : Oper} {s : S} {K K' : S → Prop} (h : OpOK P o s K) (hk : ∀ s, K s → K' s) : OpOK P o s K' := fun w0 wr A a w Q X hg hr k => h w0 wr A a w Q X hg hr fun s' a' w' h1 h2 => k s' a' w' h1 (hk s' h2)

theorem vcOps_ok {hs : List (Nat × Hint)} {all : Array Oper} (hT : TOk P T) : ∀ (l : List Oper) (s : S) (K : S → Prop), vcOps P T hs all l s K → Seq P all l s K
  | [], s, K, h => h
  | o :: rest, s, K, h => by
    simp only [vcOps] at h
    simp only [Seq]
    cases hg : o.guard with
    | none =>
      rw [hg] at h
      exact (vcStep_ok hT h).mono fun s' h' => vcOps_ok hT rest s' K h'
    | some q =>
      obtain ⟨g, want⟩ := q
      rw [hg] at h
      simp only at h ⊢
      cases hb : guardV all s g with
      | none =>
        rw [hb] at h
        obtain ⟨⟨h1⟩, ⟨h2⟩, h3⟩ := h
        rw [fS_eq] at h3
        exact .inr ⟨h1, h2, vcOps_ok hT rest _ K h3⟩
      | some b =>
        rw [hb] at h
        by_cases hw : b = want
        · have h1 := h.1 hw
          rw [fS_eq] at h1
          refine .inl ⟨b, _, rfl, S.lit_lk (hw ▸ hb), ?_⟩
          rw [if_pos hw]
          exact (vcStep_ok hT h1).mono fun s' h' => vcOps_ok hT rest s' K h'
        · have hw' : b = !want := by cases b <;> cases want <;> simp_all
          have h1 := h.2 hw'
          rw [fS_eq] at h1
          obtain ⟨⟨h1⟩, h2⟩ := h1
          rw [fS_eq] at h2
          refine .inl ⟨b, _, rfl, S.lit_lk (hw' ▸ hb), ?_⟩
          rw [if_neg hw]
          exact ⟨h1, vcOps_ok hT rest _ K h2⟩

/-- The end, reckoned. -/
def endF (T : Tab) (sh : Bool) (fn : Func) (r : MV) (s : S) : Prop :=
  match outR T sh s fn.results.toList r with
  | some (p, os, fs) => Side p ∧ Chk (decide os.Nodup && os.all fun i => !fs.contains i)
  | none => False

theorem endF_ok {sh : Bool} {fn : Func} {r : MV} {s : S} (h : endF T sh fn r s) : Ends T sh fn r s := by
  unfold endF at h
  split at h
  · rename_i p os fs ho
    obtain ⟨h1, ⟨h2⟩⟩ := h
    simp only [Bool.and_eq_true, decide_eq_true_eq, List.all_eq_true, Bool.not_eq_true', List.contains_eq_mem, decide_eq_false_iff_not] at h2
    exact ⟨p, os, fs, ho, h1.h, h2.1, h2.2⟩
  · exact h.elim

def endE (T : Tab) (sh : Bool) (fn : Func) (r : MV) : Exit → S → Prop
  | .normal, s => endF T sh fn r s
  | .ret, s => endF T sh fn r s
  | _, _ => False

end Mg

/- The abstract state logic, part 17: what an argument that can be read reads as. No condition. -/
namespace Mg
open Go Go.RowKit
set_option linter.unusedVariables false

def fitL (F : Nat → List MC → Prop) : List Nat → List MC → Prop
  | [], cs => cs = []
  | t :: ts, cs => ∃ a b, cs = a ++ b ∧ F t a ∧ fitL F ts b

/-- Cells of a type. -/
def fit (T : Tab) : Nat → Nat → List MC → Prop
  | 0, _, _ => False
  | n + 1, t, cs => match T t with
    | none => False
    | some i => match i.k with
      | .bool => ∃ b, cs = [.sc (.bool b)]
      | .int k => ∃ m, cs = [.sc (.int k m)] ∧ k.min ≤ m ∧ m ≤ k.max
      | .str => ∃ s : ByteArray, cs = [.sc (.string s)] ∧ s.size ≤ maxLen
      | .slice e => ∃ rows, cs = [.fz rows] ∧ rows.length ≤ maxLen ∧ ∀ r ∈ rows, fit T n e r
      | .struct l => fitL (fit T n) (l.map (·.2)) cs
      | .arr m e => fitL (fit T n) (List.replicate m e) cs
      | _ => False

def lay (T : Tab) : Nat → List (Nat × Nat) → Nat → Bool
  | off, [], size => off == size
  | off, (o, t) :: l, size => o == off && match T t with
    | some i => lay T (off + i.size) l size
    | none => false
def TI.lay (T : Tab) (i : TI) : Bool := match i.k with
  | .bool => i.size == 1
  | .int _ => i.size == 1
  | .str => i.size == 1
  | .slice e => i.size == 1 && match T e with
    | some ie => Nat.blt 0 ie.size
    | none => false
  | .struct l => Mg.lay T 0 l i.size
  | .arr m e => match T e with
    | some ie => i.size == m * ie.size
    | none => false
  | _ => false
def LOk (T : Tab) : Prop := ∀ t i, T t = some i → i.lay T = true

variable {P : Program} {T : Tab}

/-- What a value's cells read as. -/
def Rd (w : World) (cs : List MC) (vs : List Value) : Prop := cs.length = vs.length ∧ ∀ (j : Nat) (c : MC), cs[j]? = some c → ∃ u : Value, vs[j]? = some u ∧ RF w (fun b => b < w.heap.size) c u

theorem Rd.one {w : World} {c : MC} {v : Value} (h : RF w (fun b => b < w.heap.size) c v) : Rd w [c] [v] := ⟨rfl, fun j x hj => by
  cases j with
  | zero => obtain rfl : c = x := by simpa using hj
            exact ⟨v, rfl, h⟩
  | succ j => simp at hj⟩
theorem Rd.append {w : World} {a b : List MC} {u v : List Value} (h1 : Rd w a u) (h2 : Rd w b v) : Rd w (a ++ b) (u ++ v) := ⟨by simp [h1.1, h2.1], fun j c hj => by
  rw [List.getElem?_append] at hj ⊢
  rw [h1.1] at hj
  by_cases hlt : j < u.length
  · rw [if_pos hlt] at hj ⊢; exact h1.2 j c hj
  · rw [if_neg hlt] at hj ⊢; exact h2.2 _ c hj⟩

theorem exists_list {α : Type} {p : Nat → α → Prop} : ∀ n : Nat, (∀ i, i < n → ∃ r, p i r) → ∃ l : List α, l.length = n ∧ ∀ i r, l[i]? = some r → p i r
  | 0, _ => ⟨[], rfl, fun i r h => by simp at h⟩
  | n + 1, h => by
    obtain ⟨l, hl, hp⟩ := exists_list n fun i hi => h i (Nat.lt_succ_of_lt hi)
    obtain ⟨r, hr⟩ := h n (Nat.lt_succ_self n)
    refine ⟨l ++ [r], by simp [hl], fun i x hx => ?_⟩
    rw [List.getElem?_append] at hx
    by_cases hlt : i < l.length
    · rw [if_pos hlt] at hx; exact hp i x hx
    · rw [if_neg hlt] at hx
      have : i - l.length = 0 := by
        rcases Nat.eq_zero_or_pos (i - l.length) with h0 | h0
        · exact h0
        · obtain ⟨m, hm⟩ : ∃ m, i - l.length = m + 1 := ⟨i - l.length - 1, by omega⟩
          rw [hm] at hx; simp at hx
      rw [this] at hx
      obtain rfl : r = x := by simpa using hx
      obtain rfl : i = n := by omega
      exact hr

section
variable {H : Type} {enc : TypeId × Value → H} {w : World} {sp : Nat → Bool} {held : Bool}

theorem fields_ok (hT : TOk P T) {n : Nat} (ih : ∀ t i vs x, T t = some i → DataW.trod enc P w 0 sp held n t vs = some x → ∃ cs, fit T n t cs ∧ Rd w cs vs) (vs : List Value) :
    ∀ (l : List (Nat × Nat)) (off size : Nat), lay T off l size = true → vs.length = size → off ≤ size →
      (∀ q ∈ l, ∃ x, DataW.trod enc P w 0 sp held n q.2 ((vs.drop q.1).take (P.cellsOf q.2)) = some x) → ∃ cs, fitL (fit T n) (l.map (·.2)) cs ∧ Rd w cs (vs.drop off)
  | [], off, size, hl, hv, ho, h => by
    have : off = size := by simpa [lay] using hl
    refine ⟨[], rfl, ?_, fun j c hj => by simp at hj⟩
    simp; omega
  | (o, t) :: l, off, size, hl, hv, ho, h => by
    simp only [lay, Bool.and_eq_true, beq_iff_eq] at hl
    obtain ⟨rfl, hl⟩ := hl
    cases ht : T t with
    | none => rw [ht] at hl; cases hl
    | some i =>
      rw [ht] at hl
      simp only at hl
      obtain ⟨x, hx⟩ := h (o, t) List.mem_cons_self
      have hc : P.cellsOf t = i.size := by
        obtain ⟨f, hf, h1, _⟩ := hT.info ht
        simp [Program.cellsOf, hf, h1]
      simp only [hc] at hx
      obtain ⟨a, ha, hra⟩ := ih t i _ x ht hx
      have hle : o + i.size ≤ size := by
        clear ih h hx ha hra
        suffices ∀ (l : List (Nat × Nat)) (off : Nat), lay T off l size = true → off ≤ size from this l _ hl
        intro l
        induction l with
        | nil => intro off h; simp [lay] at h; omega
        | cons q l ih =>
          intro off h
          simp only [lay, Bool.and_eq_true, beq_iff_eq] at h
          obtain ⟨rfl, h⟩ := h
          split at h
          · have := ih _ h; omega
          · cases h
      obtain ⟨b, hb, hrb⟩ := fields_ok hT ih vs l (o + i.size) size hl hv hle (fun q hq => h q (List.mem_cons_of_mem _ hq))
      refine ⟨a ++ b, ⟨a, b, rfl, ha, hb⟩, ?_⟩
      have e : vs.drop o = (vs.drop o).take i.size ++ vs.drop (o + i.size) := by
        rw [← List.drop_drop, List.take_append_drop]
      rw [e]
      exact hra.append hrb

theorem elems_ok (hT : TOk P T) {n : Nat} {e : Nat} {ie : TI} (he : T e = some ie) (ih : ∀ t i vs x, T t = some i → DataW.trod enc P w 0 sp held n t vs = some x → ∃ cs, fit T n t cs ∧ Rd w cs vs) (vs : List Value) :
    ∀ (k m : Nat), vs.length = (k + m) * ie.size → (∀ i, i < k + m → ∃ x, DataW.trod enc P w 0 sp held n e ((vs.drop (i * ie.size)).take ie.size) = some x) →
      ∃ cs, fitL (fit T n) (List.replicate m e) cs ∧ Rd w cs (vs.drop (k * ie.size))
  | k, 0, hv, h => ⟨[], rfl, by simp; simp at hv; omega, fun j c hj => by simp at hj⟩
  | k, m + 1, hv, h => by
    obtain ⟨x, hx⟩ := h k (by omega)
    obtain ⟨a, ha, hra⟩ := ih e ie _ x he hx
    obtain ⟨b, hb, hrb⟩ := elems_ok hT he ih vs (k + 1) m (by rw [hv]; congr 1; omega) (fun i hi => h i (by omega))
    refine ⟨a ++ b, ⟨a, b, rfl, ha, hb⟩, ?_⟩
    have e : vs.drop (k * ie.size) = (vs.drop (k * ie.size)).take ie.size ++ vs.drop ((k + 1) * ie.size) := by
      rw [Nat.add_mul, Nat.one_mul, ← List.drop_drop, List.take_append_drop]
    rw [e]
    exact hra.append hrb

theorem und_of {t : Nat} {i : TI} (hT : TOk P T) (ht : T t = some i) : i.k.ok P (P.underlying t) = true := by
  obtain ⟨f, _, _, _, h3, _⟩ := hT.info ht; exact h3

/-- READING: what can be read reads as cells of its type. -/
theorem read_ok (hT : TOk P T) (hL : LOk T) : ∀ (n : Nat) (t : Nat) (i : TI) (vs : List Value) (x : DataW H × List MemPlace), T t = some i → DataW.trod enc P w 0 sp held n t vs = some x → ∃ cs, fit T n t cs ∧ Rd w cs vs
  | 0, t, i, vs, x, ht, h => by simp [DataW.trod] at h
  | n + 1, t, i, vs, x, ht, h => by
    have hu := und_of hT ht
    have hl := hL t i ht
    have hsz : P.cellsOf t = i.size := by
      obtain ⟨f, hf, h1, _⟩ := hT.info ht
      simp [Program.cellsOf, hf, h1]
    unfold fit
    rw [ht]
    simp only
    cases hk : i.k with
    | bool =>
      rw [hk] at hu
      have hu' : P.underlying t = some .bool := by cases hq : P.underlying t with
        | none => rw [hq] at hu; cases hu
        | some d => rw [hq] at hu; cases d <;> simp [TK.ok] at hu; rfl
      obtain ⟨b, rfl, rfl⟩ := DataW.trod_bool hu' h
      exact ⟨[.sc (.bool b)], ⟨b, rfl⟩, .one (.sc _ rfl)⟩
    | int k =>
      rw [hk] at hu
      have hu' : P.underlying t = some (.int k) := by cases hq : P.underlying t with
        | none => rw [hq] at hu; cases hu
        | some d => rw [hq] at hu; cases d <;> simp [TK.ok] at hu; subst hu; rfl
      obtain ⟨m, rfl, rfl, hw⟩ := DataW.trod_int hu' h
      have hw' : k.min ≤ m ∧ m ≤ k.max := by simpa [Lit.wf] using hw
      exact ⟨[.sc (.int k m)], ⟨m, rfl, hw'⟩, .one (.sc _ rfl)⟩
    | str =>
      rw [hk] at hu
      have hu' : P.underlying t = some .string := by cases hq : P.underlying t with
        | none => rw [hq] at hu; cases hu
        | some d => rw [hq] at hu; cases d <;> simp [TK.ok] at hu; rfl
      obtain ⟨s, rfl, rfl, hs⟩ := DataW.trod_string hu' h
      exact ⟨[.sc (.string s)], ⟨s, rfl, hs⟩, .one (.sc _ rfl)⟩
    | slice e =>
      have hu' := hT.und_slice ht hk
      simp only [TI.lay, hk, Bool.and_eq_true, beq_iff_eq] at hl
      cases he : T e with
      | none => rw [he] at hl; cases hl.2
      | some ie =>
        rw [he] at hl
        have hpos : 0 < ie.size := by simpa using hl.2
        have hce : P.cellsOf e = ie.size := by
          obtain ⟨f, hf, h1, _⟩ := hT.info he
          simp [Program.cellsOf, hf, h1]
        rcases DataW.trod_slice hu' h with ⟨rfl, rfl⟩ | ⟨a, len, cap, elems, rest, m, hm, rfl, rfl, _, hlc, hcm, hlen, hel, _⟩
        · exact ⟨[.fz []], ⟨[], rfl, by simp, fun r hr => by simp at hr⟩, .one (.nilz _ _)⟩
        · obtain rfl : n = m := by omega
          rw [hce] at hel
          have hsp : 0 < len → a.block < w.heap.size ∧ a.spot = none := fun h0 => by
            have h1 := hel 0 h0
            rw [List.getElem?_eq_getElem (by omega)] at h1
            obtain ⟨us, hus, _⟩ := Option.bind_eq_some_iff.1 h1
            obtain ⟨_, hlu, hcell⟩ := World.cells?_some hus
            have h2 := hcell 0 hpos
            rw [List.getElem?_eq_getElem (by omega)] at h2
            simp only [Nat.zero_mul, Addr.add, if_true] at h2
            unfold World.cell? at h2
            split at h2
            · rename_i c el fr hh
              refine ⟨?_, ?_⟩
              · rcases Nat.lt_or_ge a.block w.heap.size with g | g
                · exact g
                · rw [Array.getElem?_eq_none g] at hh; cases hh
              · cases hs : a.spot with
                | none => rfl
                | some k => simp [hs] at h2
            · cases h2
          have hrow : ∀ i, i < len → ∃ r, (fit T n e r ∧ r.length = ie.size) ∧ ∀ j c, r[j]? = some c → ∃ u, w.cell? ⟨a.block, a.off + (i * ie.size + j), none⟩ = some u ∧ RF w (fun b => b < w.heap.size) c u := fun i hi => by
            obtain ⟨y, hy⟩ : ∃ y, elems[i]? = some y := ⟨elems[i]'(by omega), List.getElem?_eq_getElem _⟩
            have h1 := hel i hi
            rw [hy] at h1
            obtain ⟨us, hus, hty⟩ := Option.bind_eq_some_iff.1 h1
            obtain ⟨_, hlu, hcell⟩ := World.cells?_some hus
            obtain ⟨r, hf, hr⟩ := read_ok hT hL n e ie us y he hty
            refine ⟨r, ⟨hf, by rw [hr.1, hlu]⟩, fun j c hj => ?_⟩
            obtain ⟨u, hu1, hru⟩ := hr.2 j c hj
            have hjl : j < ie.size := by
              rcases Nat.lt_or_ge j us.length with g | g
              · omega
              · rw [List.getElem?_eq_none (by omega)] at hu1; cases hu1
            refine ⟨u, ?_, hru⟩
            rw [← hu1, ← hcell j hjl]
            congr 1
            obtain ⟨ab, ao, as⟩ := a
            obtain rfl : as = none := (hsp (by omega)).2
            simp only [Addr.add]
            split <;> split <;> simp_all <;> omega
          obtain ⟨rows, hrl, hrows⟩ := exists_list len hrow
          refine ⟨[.fz rows], ⟨rows, rfl, by omega, fun r hr => ?_⟩, .one ?_⟩
          · obtain ⟨i, hi⟩ := List.getElem?_of_mem hr; exact (hrows i r hi).1.1
          · rw [← hrl]
            refine RF.mk (by omega) fun hne => ?_
            have h0 : 0 < len := by rw [← hrl]; exact List.length_pos_iff.2 hne
            obtain ⟨ab, ao, as⟩ := a
            obtain ⟨hb, rfl⟩ : ab < w.heap.size ∧ as = none := hsp h0
            exact ⟨ab, ao, ie.size, rfl, hb, fun r hr => by
              obtain ⟨i, hi⟩ := List.getElem?_of_mem hr; exact (hrows i r hi).1.2, fun i j r c hi hj => (hrows i r hi).2 j c hj⟩
    | arr m e =>
      have hu' := hT.und_arr ht hk
      simp only [TI.lay, hk] at hl
      cases he : T e with
      | none => rw [he] at hl; cases hl
      | some ie =>
        rw [he] at hl
        have hce : P.cellsOf e = ie.size := by
          obtain ⟨f, hf, h1, _⟩ := hT.info he
          simp [Program.cellsOf, hf, h1]
        obtain ⟨xs, m', hm, rfl, hlen, hxl, hel⟩ := DataW.trod_array hu' h
        obtain rfl : n = m' := by omega
        have hsz' : i.size = m * ie.size := by simpa using hl
        obtain ⟨cs, h1, h2⟩ := elems_ok hT he (fun t i vs x h1 h2 => read_ok hT hL n t i vs x h1 h2) vs 0 m (by rw [hlen, hsz, hsz', Nat.zero_add]) (fun i hi => by
          have := hel i (by omega)
          rw [hce, List.getElem?_eq_getElem (by omega)] at this
          exact ⟨_, this⟩)
        exact ⟨cs, h1, by simpa using h2⟩
    | struct l =>
      simp only [TI.lay, hk] at hl
      rw [hk] at hu
      obtain ⟨fs, hu', hfs⟩ : ∃ fs : Array Field, P.underlying t = some (.struct fs) ∧ fs.toList.map (fun f => (f.offset, f.type)) = l := by
        cases hq : P.underlying t with
        | none => rw [hq] at hu; cases hu
        | some d =>
          rw [hq] at hu
          cases d <;> simp [TK.ok] at hu
          exact ⟨_, rfl, hu.1⟩
      obtain ⟨xs, m', hm, rfl, hlen, hxl, hel⟩ := DataW.trod_struct hu' h
      obtain rfl : n = m' := by omega
      obtain ⟨cs, h1, h2⟩ := fields_ok hT (fun t i vs x h1 h2 => read_ok hT hL n t i vs x h1 h2) vs l 0 i.size hl (by rw [hlen, hsz]) (Nat.zero_le _) (fun q hq => by
        rw [← hfs] at hq
        obtain ⟨f, hf, rfl⟩ := List.mem_map.1 hq
        obtain ⟨i', hi'⟩ := List.getElem?_of_mem hf
        have hi2 : fs[i']? = some f := by simpa using hi'
        have := hel i' f hi2
        have hlt : i' < fs.size := by
          rcases Nat.lt_or_ge i' fs.size with g | g
          · exact g
          · rw [Array.getElem?_eq_none g] at hi2; cases hi2
        rw [List.getElem?_eq_getElem (by omega)] at this
        exact ⟨_, this⟩)
      exact ⟨cs, h1, by simpa using h2⟩
    | ptr => simp [TI.lay, hk] at hl
    | other => simp [TI.lay, hk] at hl

/-- An argument of a struct's, array's type. -/
theorem FV_agg (hT : TOk P T) (hL : LOk T) {t : Nat} {i : TI} {arr : Array Value} {d : DataW H} {ps : List MemPlace} (ht : T t = some i) (h : DataW.Trod enc P w 0 sp held t (.agg arr) d ps) :
    ∃ n cs, fit T n t cs ∧ FV w (fun b => b < w.heap.size) (.agg cs) (.agg arr) := by
  obtain ⟨n, hn⟩ := h
  obtain ⟨cs, h1, h2, h3⟩ := read_ok hT hL n t i _ _ ht hn
  exact ⟨n, cs, h1, arr, rfl, by simpa [Value.cells] using h2.symm, fun j c hj => by
    obtain ⟨u, hu, hr⟩ := h3 j c hj; exact ⟨u, by simpa [Value.cells] using hu, hr⟩⟩
/-- An argument of one cell. -/
theorem FV_one (hT : TOk P T) (hL : LOk T) {t : Nat} {i : TI} {v : Value} {d : DataW H} {ps : List MemPlace} (ht : T t = some i) (hs : i.size = 1) (hv : v.cells = #[v]) (h : DataW.Trod enc P w 0 sp held t v d ps) :
    ∃ n c, fit T n t [c] ∧ FV w (fun b => b < w.heap.size) (.one c) v := by
  obtain ⟨n, hn⟩ := h
  rw [hv] at hn
  obtain ⟨cs, h1, h2, h3⟩ := read_ok hT hL n t i _ _ ht hn
  obtain ⟨c, rfl⟩ := List.length_eq_one_iff.1 h2
  obtain ⟨u, hu, hr⟩ := h3 0 c rfl
  obtain rfl : v = u := by simpa using hu
  exact ⟨n, c, h1, hr⟩
end
end Mg
