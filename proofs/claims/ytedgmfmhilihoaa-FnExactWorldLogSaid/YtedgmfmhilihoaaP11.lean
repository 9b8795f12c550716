/- Parts of the abstract state logic and of the walks, one behind the other: Mg31, Mg20, Mg22. No condition. -/
import Derived.Test.YtedgmfmhilihoaaP10
/- The abstract state logic, part 31: drawn regions whose readings float. No condition. -/
namespace Mg
open Go Go.RowKit
set_option linter.unusedVariables false

variable {P : Program} {T : Tab}

def opAt : List Oper → Nat → Option Oper
  | o :: _, 0 => some o
  | _ :: l, n + 1 => opAt l n
  | [], _ => none
theorem opAt_get : ∀ (l : List Oper) (i : Nat), opAt l i = l[i]?
  | [], i => by simp [opAt]
  | o :: l, 0 => by simp [opAt]
  | o :: l, n + 1 => by simp [opAt, opAt_get l n]
theorem opAt_arr (ops : Array Oper) (i : Nat) : opAt ops.toList i = ops[i]? := by rw [opAt_get]; simp

def stay (P : Program) (T : Tab) (hs : List (Nat × Hint)) (s : S) (o : Oper) (v : MV) : Prop := match o.guard with
  | none => match stepF P T (hintOf hs o.dst) s o with
    | some (p, s1) => Side p ∧ Side (s1.env.head?.map (·.2) = some v)
    | none => False
  | some _ => False
def stays (P : Program) (T : Tab) (hs : List (Nat × Hint)) (all : Array Oper) : List (Nat × MV) → S → Prop
  | [], _ => True
  | (i, v) :: l, s => (match opAt all.toList i with
    | some o => stay P T hs s o v
    | none => False) ∧ stays P T hs all l s
/-- Does an operation float? Those of fc keep their place. -/
def flo (hs : List (Nat × Hint)) (fc : List Nat) (i : Nat) (o : Oper) : Bool := quiet (hintOf hs o.dst) o && !fc.contains i
def vcF (P : Program) (T : Tab) (hs : List (Nat × Hint)) (all : Array Oper) (fc : List Nat) : List Nat → List (Nat × MV) → S → (S → Prop) → Prop
  | [], _, s, K => K s
  | i :: r, pd, s, K => match opAt all.toList i with
    | none => False
    | some o => match flo hs fc i o with
      | true => vcOps P T hs all [o] s fun s' => match s'.env with
        | (_, v) :: _ => vcF P T hs all fc r (pd ++ [(i, v)]) s' K
        | [] => False
      | false => vcStep P T hs s o fun s' => stays P T hs all (pd.filter fun q => !waits all i q.1) s' ∧ vcF P T hs all fc r (pd.filter fun q => !waits all i q.1) s' K

def isQ (hs : List (Nat × Hint)) (ops : Array Oper) (fc : List Nat) (i : Nat) : Bool := (ops[i]?).any fun o => flo hs fc i o
def ordOk (hs : List (Nat × Hint)) (ops : Array Oper) (fc : List Nat) : List Nat → List Nat → Bool
  | _, [] => true
  | pre, i :: r => Nat.blt i ops.size && ((List.range ops.size).all fun j => !waits ops i j || pre.contains j) && !pre.contains i && (isQ hs ops fc i || r.all fun x => (i :: r).any fun y => waits ops x y) && ordOk hs ops fc (i :: pre) r
def gchk (hs : List (Nat × Hint)) (ops : Array Oper) (fc ord : List Nat) : Bool :=
  ((List.range ops.size).all fun i => ord.contains i) &&
  ((List.range ops.size).all fun i => (ops[i]?).any fun o => (quiet (hintOf hs o.dst) o && (!fc.contains i || o.guard.isNone)) || chainOp (hintOf hs o.dst) o) &&
  ((List.range ops.size).all fun i => (ops[i]?).any fun o => o.after.all fun e => !Region.binds .any e || Nat.blt e.on i) &&
  ((List.range ops.size).all fun i => (List.range ops.size).all fun j => Nat.beq i j || (match dstOf ops i with | none => true | some t => dstOf ops j != some t)) &&
  ((List.range ops.size).all fun i => (ops[i]?).any fun o => (o.looksAt ops).all fun t => (List.range ops.size).all fun j => dstOf ops j != some t || waits ops i j || (fc.contains j && waits ops j i)) &&
  ordOk hs ops fc [] ord

structure GChk (hs : List (Nat × Hint)) (ops : Array Oper) (fc ord : List Nat) : Prop where
  mem : ∀ i, i < ops.size → i ∈ ord
  kind : ∀ (i : Nat) (o : Oper), ops[i]? = some o → (quiet (hintOf hs o.dst) o = true ∧ (i ∉ fc ∨ o.guard = none)) ∨ chainOp (hintOf hs o.dst) o = true
  down : ∀ (i : Nat) (o : Oper), ops[i]? = some o → ∀ e ∈ o.after, Region.binds .any e = true → e.on < i
  uniq : ∀ (i j t : Nat), i ≠ j → dstOf ops i = some t → dstOf ops j ≠ some t
  look : ∀ (i : Nat) (o : Oper), ops[i]? = some o → ∀ t ∈ o.looksAt ops, ∀ j, dstOf ops j = some t → waits ops i j = true ∨ (j ∈ fc ∧ waits ops j i = true)
  ord : ordOk hs ops fc [] ord = true

theorem dstOf_lt {ops : Array Oper} {i t : Nat} (h : dstOf ops i = some t) : i < ops.size := by
  unfold dstOf at h
  obtain ⟨o, ho, _⟩ := Option.bind_eq_some_iff.1 h
  exact (Array.getElem?_eq_some_iff.1 ho).1

theorem gchk_spec {hs : List (Nat × Hint)} {ops : Array Oper} {fc ord : List Nat} (h : gchk hs ops fc ord = true) : GChk hs ops fc ord := by
  simp only [gchk, Bool.and_eq_true] at h
  obtain ⟨⟨⟨⟨⟨c1, c2⟩, c3⟩, c4⟩, c5⟩, c6⟩ := h
  simp only [List.all_eq_true, List.mem_range] at c1 c2 c3 c4 c5
  have lt_of : ∀ {i : Nat} {o : Oper}, ops[i]? = some o → i < ops.size := fun {i o} ho => (Array.getElem?_eq_some_iff.1 ho).1
  refine ⟨fun i hi => by simpa using c1 i hi, fun i o ho => ?_, fun i o ho e he hb => ?_, fun i j t hne hi hj => ?_, fun i o ho t ht j hj => ?_, c6⟩
  · have := c2 i (lt_of ho)
    rw [ho] at this
    simpa [Option.any_some, Bool.or_eq_true] using this
  · have := c3 i (lt_of ho)
    rw [ho] at this
    simp only [Option.any_some, Array.all_eq_true_iff_forall_mem, Bool.or_eq_true, Bool.not_eq_true'] at this
    rcases this e he with h0 | h0
    · rw [hb] at h0; cases h0
    · simpa using h0
  · have := c4 i (dstOf_lt hi) j (dstOf_lt hj)
    rw [hi] at this
    simp only [Bool.or_eq_true, bne_iff_ne, ne_eq] at this
    rcases this with h0 | h0
    · exact hne (Nat.eq_of_beq_eq_true h0)
    · exact h0 hj
  · have := c5 i (lt_of ho)
    rw [ho] at this
    simp only [Option.any_some, List.all_eq_true, List.mem_range, Bool.or_eq_true, bne_iff_ne, ne_eq] at this
    rcases this t ht j (dstOf_lt hj) with (h0 | h0) | h0
    · exact absurd hj h0
    · exact .inl h0
    · simp only [Bool.and_eq_true, List.contains_eq_mem, decide_eq_true_eq] at h0
      exact .inr h0

theorem stay_ev {hs : List (Nat × Hint)} {all : Array Oper} {s : S} {o : Oper} {v : MV} (hq : quiet (hintOf hs o.dst) o = true) (h : stay P T hs s o v) : Ev P T hs all s o v := by
  unfold stay at h
  unfold Ev
  split at h
  · rename_i hg
    split at h
    · rename_i p s1 hst
      obtain ⟨⟨h1⟩, ⟨h2⟩⟩ := h
      obtain ⟨v', rfl, _⟩ := quiet_step hq hst
      have hd : o.dst.isSome = true := by simp only [quiet, Bool.and_eq_true] at hq; exact hq.1
      obtain ⟨d, hd⟩ := Option.isSome_iff_exists.1 hd
      rw [hd] at h2
      simp [S.put] at h2
      subst h2
      rw [hg]
      exact ⟨p, hst, h1⟩
    · exact h.elim
  · exact h.elim
theorem stays_mem {hs : List (Nat × Hint)} {all : Array Oper} {s : S} : ∀ {l : List (Nat × MV)}, stays P T hs all l s → ∀ q ∈ l, ∃ o, all[q.1]? = some o ∧ stay P T hs s o q.2
  | [], _, q, hq => by cases hq
  | (i, v) :: l, h, q, hq => by
    obtain ⟨h1, h2⟩ := h
    rcases List.mem_cons.1 hq with rfl | hq
    · rw [opAt_arr] at h1
      split at h1
      · rename_i o ho; exact ⟨o, ho, h1⟩
      · exact h1.elim
    · exact stays_mem h2 q hq

theorem chain_ok {hs : List (Nat × Hint)} {s s2 : S} {o : Oper} {K : S → Prop} (hT : TOk P T) (hk : (quiet (hintOf hs o.dst) o = true ∧ o.guard = none) ∨ chainOp (hintOf hs o.dst) o = true) (ha : Al s s2 o.op.operands.toList) (h : vcStep P T hs s o K) :
    OpOK P o s2 fun s2' => ∃ s', K s' ∧ Twin o.dst s s' s2 s2' := by
  rcases hk with ⟨hq, _⟩ | hc
  · obtain ⟨v, ⟨p, h1, h2⟩, h3⟩ := vcStep_quiet hq h
    obtain ⟨v', hv, hall⟩ := quiet_step hq h1
    have hd : o.dst.isSome = true := by simp only [quiet, Bool.and_eq_true] at hq; exact hq.1
    obtain ⟨d, hd⟩ := Option.isSome_iff_exists.1 hd
    have : v = v' := by
      rw [hd] at hv
      have := congrArg S.env hv
      simpa [S.put] using this
    subst this
    refine stepF_ok hT (hall s2 ha.alike) h2 ⟨_, h3, ?_⟩
    have t := Twin.put ha (n := s.n) (st := s.st) (dst := o.dst) (v := v)
    have e : (⟨s2.m, s.n, s2.env, s.st⟩ : S) = s2 := by rw [ha.n, ha.st]
    rw [e] at t
    exact t
  · exact vcStep_ok hT (vcStep_nat hc ha h)

section
variable {w0 : World} {wr : Wr} {A : Nat → Prop} {Q : Exit → Act → World → Prop} {all : Array Oper}

structure Inv (P : Program) (T : Tab) (hs : List (Nat × Hint)) (all : Array Oper) (fc rest pre : List Nat) (pd : List (Nat × MV)) (listed : Array Bool) (σ s' : S) : Prop where
  ordk : ordOk hs all fc pre rest = true
  prw : ∀ k ∈ pre, ∀ j, waits all k j = true → j ∈ pre
  cov : ∀ i, i < all.size → listed.getD i true = false → i ∈ rest ∨ ∃ v, (i, v) ∈ pd
  un : ∀ i ∈ rest, listed.getD i true = false
  pdp : ∀ q ∈ pd, q.1 ∈ pre
  pdf : ∀ q ∈ pd, q.1 ∉ fc
  ev : ∀ q ∈ pd, listed.getD q.1 true = false → ∃ o, all[q.1]? = some o ∧ quiet (hintOf hs o.dst) o = true ∧ Ev P T hs all σ o q.2 ∧ ∀ d, o.dst = some d → look σ.env d = some q.2
  m : σ.m = s'.m
  n : σ.n = s'.n
  st : σ.st = s'.st
  env : ∀ t, (∀ q ∈ pd, listed.getD q.1 true = false → dstOf all q.1 ≠ some t) → look s'.env t = look σ.env t

theorem GChk.below {hs : List (Nat × Hint)} {fc ord : List Nat} (hc : GChk hs all fc ord) {i j : Nat} (h : waits all i j = true) : j < i ∧ i < all.size := by
  have hi := waits_lt h
  obtain ⟨e, he, hb, rfl⟩ := waits_spec (Array.getElem?_eq_getElem hi) h
  exact ⟨hc.down i _ (Array.getElem?_eq_getElem hi) e he hb, hi⟩

theorem ordOk_cons {hs : List (Nat × Hint)} {fc ord pre r : List Nat} {i : Nat} (hc : GChk hs all fc ord) (h : ordOk hs all fc pre (i :: r) = true) :
    i < all.size ∧ (∀ j, waits all i j = true → j ∈ pre) ∧ i ∉ pre ∧ (isQ hs all fc i = false → ∀ x ∈ r, ∃ y ∈ i :: r, waits all x y = true) ∧ ordOk hs all fc (i :: pre) r = true := by
  simp only [ordOk, Bool.and_eq_true] at h
  obtain ⟨⟨⟨⟨h1, h2⟩, h3⟩, h4⟩, h5⟩ := h
  refine ⟨by simpa using h1, fun j hw => ?_, by simpa using h3, fun hq x hx => ?_, h5⟩
  · simp only [List.all_eq_true, List.mem_range, Bool.or_eq_true, Bool.not_eq_true'] at h2
    obtain ⟨g1, g2⟩ := hc.below hw
    rcases h2 j (by omega) with h0 | h0
    · rw [hw] at h0; cases h0
    · simpa using h0
  · simp only [Bool.or_eq_true, List.all_eq_true, List.any_eq_true] at h4
    rcases h4 with h0 | h0
    · rw [hq] at h0; cases h0
    · exact h0 x hx
theorem ordOk_notin {hs : List (Nat × Hint)} {fc ord : List Nat} (hc : GChk hs all fc ord) : ∀ {r pre : List Nat}, ordOk hs all fc pre r = true → ∀ x ∈ r, x ∉ pre
  | [], _, _, x, hx => by cases hx
  | i :: r, pre, h, x, hx => by
    obtain ⟨_, _, h1, _, h2⟩ := ordOk_cons hc h
    rcases List.mem_cons.1 hx with rfl | hx
    · exact h1
    · exact fun hp => ordOk_notin hc h2 x hx (List.mem_cons_of_mem _ hp)

/-- The readings that come next are reckoned. -/
theorem absorb {hs : List (Nat × Hint)} {fc ord : List Nat} (hc : GChk hs all fc ord) {K : S → Prop} {listed : Array Bool} {s' : S} : ∀ (rest pre : List Nat) (pd : List (Nat × MV)) (σ : S), vcF P T hs all fc rest pd σ K → Inv P T hs all fc rest pre pd listed σ s' →
    ∃ rest' pre' pd' σ', vcF P T hs all fc rest' pd' σ' K ∧ Inv P T hs all fc rest' pre' pd' listed σ' s' ∧ (rest' = [] ∨ ∃ c r o, rest' = c :: r ∧ all[c]? = some o ∧ flo hs fc c o = false) := by
  intro rest
  induction rest with
  | nil => intro pre pd σ hv hi; exact ⟨[], pre, pd, σ, hv, hi, .inl rfl⟩
  | cons i r ih =>
    intro pre pd σ hv hi
    obtain ⟨hlt, hpre, hnp, _, hord⟩ := ordOk_cons hc hi.ordk
    have ho : all[i]? = some all[i] := Array.getElem?_eq_getElem hlt
    generalize all[i] = o at ho
    cases hfl : flo hs fc i o with
    | false => exact ⟨i :: r, pre, pd, σ, hv, hi, .inr ⟨i, r, o, rfl, ho, hfl⟩⟩
    | true =>
      simp only [vcF, opAt_arr, ho, hfl] at hv
      simp only [flo, Bool.and_eq_true, Bool.not_eq_true', List.contains_eq_mem, decide_eq_false_iff_not] at hfl
      obtain ⟨hq, hnf⟩ := hfl
      obtain ⟨v, s1, hl, hev, hk⟩ := vcOps_quiet hq hv
      have hds : o.dst.isSome = true := by simp only [quiet, Bool.and_eq_true] at hq; exact hq.1
      obtain ⟨d, hd⟩ := Option.isSome_iff_exists.1 hds
      have hdi : dstOf all i = some d := by simp [dstOf, ho, hd]
      rw [hd] at hk
      have hk : vcF P T hs all fc r (pd ++ [(i, v)]) (s1.put (some d) v) K := hk
      have hnew : ∀ t, look (s1.put (some d) v).env t = if t = d then some v else look σ.env t := fun t => by
        simp only [S.put, look_cons]; rw [hl.env]
      -- what looks at other slots sees the same
      have hsame : ∀ k ok, all[k]? = some ok → (k ∈ pre ∨ k = i) → Same all ok σ (s1.put (some d) v) := fun k ok hok hkp => by
        refine ⟨hl.m.symm, hl.st.symm, fun t ht => ?_⟩
        rw [hnew]
        rw [if_neg]
        rintro rfl
        have hw := (hc.look k ok hok t ht i hdi).resolve_right fun h => hnf h.1
        rcases hkp with hkp | rfl
        · -- k before i in the order, yet waits for i
          exact hnp (hi.prw k hkp i hw)
        · exact Nat.lt_irrefl _ (hc.below hw).1
      refine ih (i :: pre) (pd ++ [(i, v)]) (s1.put (some d) v) hk ⟨hord, fun k hk1 j hw => ?_, fun k hk1 hk2 => ?_, fun k hk1 => hi.un k (List.mem_cons_of_mem _ hk1), fun q hq1 => ?_, fun q hq1 => ?_, fun q hq1 hq2 => ?_, hl.m.trans hi.m, hl.n.trans hi.n, hl.st.trans hi.st, fun t ht => ?_⟩
      · rcases List.mem_cons.1 hk1 with rfl | hk1
        · exact List.mem_cons_of_mem _ (hpre j hw)
        · exact List.mem_cons_of_mem _ (hi.prw k hk1 j hw)
      · rcases hi.cov k hk1 hk2 with h | ⟨u, h⟩
        · rcases List.mem_cons.1 h with rfl | h
          · exact .inr ⟨v, List.mem_append.2 (.inr (by simp))⟩
          · exact .inl h
        · exact .inr ⟨u, List.mem_append.2 (.inl h)⟩
      · rcases List.mem_append.1 hq1 with h | h
        · exact List.mem_cons_of_mem _ (hi.pdp q h)
        · simp at h; rw [h]; exact List.mem_cons_self
      · rcases List.mem_append.1 hq1 with h | h
        · exact hi.pdf q h
        · simp at h; rw [h]; exact hnf
      · rcases List.mem_append.1 hq1 with h | h
        · obtain ⟨oq, h1, h2, h3, h4⟩ := hi.ev q h hq2
          refine ⟨oq, h1, h2, h3.same h2 (hsame q.1 oq h1 (.inl (hi.pdp q h))), fun d' hd' => ?_⟩
          rw [hnew, if_neg]
          · exact h4 d' hd'
          · rintro rfl
            have hne : q.1 ≠ i := fun e => hnp (e ▸ hi.pdp q h)
            exact hc.uniq q.1 i d' hne (by simp [dstOf, h1, hd']) hdi
        · simp at h
          subst h
          refine ⟨o, ho, hq, hev.same hq (hsame i o ho (.inr rfl)), fun d' hd' => ?_⟩
          rw [hd] at hd'
          obtain rfl := Option.some.inj hd'
          rw [hnew, if_pos rfl]
      · have hti : t ≠ d := fun e => ht (i, v) (List.mem_append.2 (.inr (by simp))) (hi.un i List.mem_cons_self) (by rw [hdi, e])
        rw [hnew, if_neg hti]
        exact hi.env t fun q hq1 hq2 => ht q (List.mem_append.2 (.inl hq1)) hq2

theorem GChk.ready_all {hs : List (Nat × Hint)} {fc ord : List Nat} {listed : Array Bool} (hc : GChk hs all fc ord) (hsz : listed.size = all.size) (hr : Region.ready .any all listed = []) : ∀ i, i < all.size → listed.getD i true = true := by
  intro i
  induction i using Nat.strongRecOn with
  | _ i ih =>
    intro hi
    cases hl : listed.getD i true with
    | true => rfl
    | false =>
      exfalso
      have : i ∈ Region.ready .any all listed := mem_ready.2 ⟨hl, all[i], Array.getElem?_eq_getElem hi, fun e he hb => by
        have hlt := hc.down i _ (Array.getElem?_eq_getElem hi) e he hb
        have h1 := ih e.on hlt (by omega)
        have : e.on < listed.size := by omega
        simpa [Array.getD_eq_getD_getElem?, Array.getElem?_eq_getElem this] using h1⟩
      rw [hr] at this
      cases this

theorem float_ok {hs : List (Nat × Hint)} {fc ord : List Nat} (hgt : GE P w0 wr A) (hT : TOk P T) (hc : GChk hs all fc ord) {K : S → Prop} (hQ : ∀ s a w, Rel w0 wr A s a w → K s → Q .normal a w) :
    ∀ (fuel : Nat) (listed : Array Bool) (rest pre : List Nat) (pd : List (Nat × MV)) (σ s' : S) (a : Act) (w : World), listed.size = all.size → cntU (fun i => !listed.getD i true) all.size ≤ fuel →
      vcF P T hs all fc rest pd σ K → Inv P T hs all fc rest pre pd listed σ s' → Rel w0 wr A s' a w → wpAny P .any all Q fuel listed a w := by
  -- all are listed
  have done : ∀ (listed : Array Bool) (rest pre : List Nat) (pd : List (Nat × MV)) (σ s' : S) (a : Act) (w : World), (∀ i, i < all.size → listed.getD i true = true) →
      vcF P T hs all fc rest pd σ K → Inv P T hs all fc rest pre pd listed σ s' → Rel w0 wr A s' a w → Q .normal a w := fun listed rest pre pd σ s' a w hall hv hi hr => by
    have hrest : rest = [] := by
      cases rest with
      | nil => rfl
      | cons i r =>
        exfalso
        have h1 := hi.un i List.mem_cons_self
        rw [hall i (ordOk_cons hc hi.ordk).1] at h1
        cases h1
    subst hrest
    obtain ⟨L, F, hR⟩ := hr
    have hl : Lk σ s' := ⟨hi.m, hi.n, hi.st, fun t => (hi.env t fun q hq hq2 => by
      obtain ⟨o, ho, _⟩ := hi.ev q hq hq2
      rw [hall q.1 (Array.getElem?_eq_some_iff.1 ho).1] at hq2
      cases hq2).symm⟩
    exact hQ σ a w ⟨L, F, hl.rl hR⟩ hv
  intro fuel
  induction fuel with
  | zero =>
    intro listed rest pre pd σ s' a w hsz hcnt hv hi hr
    have hz := cntU_zero (Nat.le_zero.1 hcnt)
    have hall : ∀ i, i < all.size → listed.getD i true = true := fun i h => by simpa using hz i h
    refine ⟨List.eq_nil_iff_forall_not_mem.2 fun j hj => ?_, done listed rest pre pd σ s' a w hall hv hi hr⟩
    obtain ⟨h0, o, ho, _⟩ := mem_ready.1 hj
    rw [hall j (Array.getElem?_eq_some_iff.1 ho).1] at h0
    cases h0
  | succ fuel ih =>
    intro listed rest pre pd σ s' a w hsz hcnt hv hi hr
    obtain ⟨rest, pre, pd, σ, hv, hi, hhead⟩ := absorb hc rest pre pd σ hv hi
    refine ⟨fun hn => done listed rest pre pd σ s' a w (hc.ready_all hsz hn) hv hi hr, fun j hj => ?_⟩
    obtain ⟨h0, o, ho, _⟩ := mem_ready.1 hj
    have hjs : j < all.size := (Array.getElem?_eq_some_iff.1 ho).1
    have hw := ready_waits hj
    have hcnt' : cntU (fun i => !(listed.setIfInBounds j true).getD i true) all.size ≤ fuel := by
      have := cntU_set (f := fun i => !listed.getD i true) (g := fun i => !(listed.setIfInBounds j true).getD i true) (i := j) (by simp only [h0]; rfl) (by simp [Array.getD_eq_getD_getElem?, hsz, hjs]) (fun i hi => by
        simp only [getD_set_ne true (Ne.symm hi)]) all.size hjs
      omega
    have hset : ∀ i, (listed.setIfInBounds j true).getD i true = false → i ≠ j ∧ listed.getD i true = false := fun i hi => by
      have hne : i ≠ j := by
        rintro rfl
        simp [Array.getD_eq_getD_getElem?, hsz, hjs] at hi
      exact ⟨hne, by rw [getD_set_ne true (Ne.symm hne)] at hi; exact hi⟩
    -- a slot that is looked at is known
    have known : ∀ t ∈ o.looksAt all, look s'.env t = look σ.env t := fun t ht => hi.env t fun q hq hq2 hd => by
      have h1 := hw q.1 ((hc.look j o ho t ht q.1 hd).resolve_right fun h => hi.pdf q hq h.1)
      have hlt := dstOf_lt hd
      rw [← getD_ft (by omega)] at h1
      rw [hq2] at h1
      cases h1
    by_cases hjr : j ∈ rest
    · -- the next one of the chain
      rcases hhead with rfl | ⟨c, r, oc, rfl, hoc, hqc⟩
      · cases hjr
      obtain ⟨hlt, hpre, hnp, hlate, hord⟩ := ordOk_cons hc hi.ordk
      have hjc : j = c := by
        rcases List.mem_cons.1 hjr with e | hjr
        · exact e
        · exfalso
          obtain ⟨y, hy, hwy⟩ := hlate (by simp [isQ, hoc, hqc]) j hjr
          have h1 := hi.un y hy
          have h2 := hw y hwy
          have hlty := hc.below hwy
          rw [← getD_ft (by omega), h1] at h2
          cases h2
      subst hjc
      obtain rfl : o = oc := by rw [ho] at hoc; exact Option.some.inj hoc
      have hkind : (quiet (hintOf hs o.dst) o = true ∧ o.guard = none) ∨ chainOp (hintOf hs o.dst) o = true := by
        rcases hc.kind j o ho with ⟨h1, h2⟩ | h1
        · refine .inl ⟨h1, h2.resolve_left fun hnf => ?_⟩
          simp [flo, h1, hnf] at hqc
        · exact .inr h1
      have hg : o.guard = none := by
        rcases hkind with ⟨_, h1⟩ | hch
        · exact h1
        · simp only [chainOp, Bool.and_eq_true, Option.isNone_iff_eq_none] at hch
          exact hch.1
      simp only [vcF, opAt_arr, ho, hqc] at hv
      have hal : Al σ s' o.op.operands.toList := ⟨hi.m, hi.n, hi.st, fun x hx => by
        cases x with
        | tmp t =>
          simp only [evO]
          refine (known t ?_).symm
          simp only [Oper.looksAt, List.mem_append, List.mem_filterMap]
          exact .inl ⟨.tmp t, hx, rfl⟩
        | _ => rfl⟩
      have hok := chain_ok hT hkind hal hv
      unfold Go.wpOp
      rw [ho]
      simp only
      have hwd : Region.wanted o (yielded all a.tmps) = true := by simp [Region.wanted, hg]
      rw [if_pos hwd]
      refine .inl (hok w0 wr A a w Q _ hgt hr fun s2' a' w' hr' hk => ?_)
      obtain ⟨σ', ⟨hst, hv'⟩, htw⟩ := hk
      obtain ⟨e, he, hes, hes2⟩ := htw.env
      have hnk : ∀ t, o.dst ≠ some t → look e t = none := fun t ht => by
        cases hle : look e t with
        | none => rfl
        | some v =>
          exfalso
          have : ∀ (l : List (Nat × MV)) (v : MV), look l t = some v → ∃ q ∈ l, q.1 = t := fun l => by
            induction l with
            | nil => intro v h; cases h
            | cons q l ih =>
              intro v h
              obtain ⟨k, u⟩ := q
              rw [look_cons] at h
              by_cases g : t = k
              · exact ⟨(k, u), List.mem_cons_self, g.symm⟩
              · rw [if_neg g] at h
                obtain ⟨q, h1, h2⟩ := ih v h
                exact ⟨q, List.mem_cons_of_mem _ h1, h2⟩
          obtain ⟨q, h1, h2⟩ := this e v hle
          exact ht (by rw [he q h1, h2])
      refine ih (listed.setIfInBounds j true) r (j :: pre) _ σ' s2' a' w' (by simpa using hsz) hcnt' hv' ⟨hord, fun k hk1 i hwk => ?_, fun i h1 h2 => ?_, fun i h1 => ?_, fun q hq => ?_, fun q hq => hi.pdf q (List.mem_filter.1 hq).1, fun q hq hq2 => ?_, htw.m, htw.n, htw.st, fun t ht => ?_⟩ hr'
      · rcases List.mem_cons.1 hk1 with rfl | hk1
        · exact List.mem_cons_of_mem _ (hpre i hwk)
        · exact List.mem_cons_of_mem _ (hi.prw k hk1 i hwk)
      · obtain ⟨hne, h3⟩ := hset i h2
        rcases hi.cov i h1 h3 with h | ⟨v, h⟩
        · rcases List.mem_cons.1 h with e | h
          · exact absurd e hne
          · exact .inl h
        · refine .inr ⟨v, List.mem_filter.2 ⟨h, ?_⟩⟩
          cases hwi : waits all j i with
          | false => simp
          | true =>
            exfalso
            have := hw i hwi
            rw [← getD_ft (by omega), h3] at this
            cases this
      · have hne : j ≠ i := fun e => ordOk_notin hc hord i h1 (e ▸ List.mem_cons_self)
        rw [getD_set_ne true hne]
        exact hi.un i (List.mem_cons_of_mem _ h1)
      · exact List.mem_cons_of_mem _ (hi.pdp q (List.mem_filter.1 hq).1)
      · obtain ⟨hq1, _⟩ := List.mem_filter.1 hq
        obtain ⟨hne, h3⟩ := hset q.1 hq2
        obtain ⟨oq, g1, g2, g3, g4⟩ := hi.ev q hq1 h3
        obtain ⟨oq', g1', g5⟩ := stays_mem hst q hq
        obtain rfl : oq = oq' := by rw [g1] at g1'; exact Option.some.inj g1'
        refine ⟨oq, g1, g2, stay_ev g2 g5, fun d hd => ?_⟩
        rw [hes, look_app, hnk d (fun hod => hc.uniq q.1 j d hne (by simp [dstOf, g1, hd]) (by simp [dstOf, ho, hod]))]
        exact g4 d hd
      · rw [hes, hes2, look_app, look_app]
        by_cases hod : o.dst = some t
        · cases look e t with
          | some v => rfl
          | none =>
            -- then the slot is nobody else's
            refine hi.env t fun q hq1 hq2 hd => ?_
            obtain ⟨oq, g1, _⟩ := hi.ev q hq1 hq2
            exact hc.uniq j q.1 t (fun e => hnp (by rw [e]; exact hi.pdp q hq1)) (by simp [dstOf, ho, hod]) hd
        · rw [hnk t hod]
          refine hi.env t fun q hq1 hq2 hd => ?_
          have hne : q.1 ≠ j := fun e => hnp (by rw [← e]; exact hi.pdp q hq1)
          refine ht q (List.mem_filter.2 ⟨hq1, ?_⟩) (by rw [getD_set_ne true (Ne.symm hne)]; exact hq2) hd
          cases hwi : waits all j q.1 with
          | false => simp
          | true =>
            exfalso
            have := hw q.1 hwi
            have hlt := dstOf_lt hd
            rw [← getD_ft (by omega), hq2] at this
            cases this
    · -- one that reads
      obtain ⟨v, hpd⟩ := (hi.cov j hjs h0).resolve_left hjr
      obtain ⟨oq, g1, g2, g3, g4⟩ := hi.ev (j, v) hpd h0
      obtain rfl : o = oq := by rw [ho] at g1; exact Option.some.inj g1
      have hev := g3.same g2 (s' := s') ⟨hi.m, hi.st, fun t ht => (known t ht).symm⟩
      have hds : o.dst.isSome = true := by simp only [quiet, Bool.and_eq_true] at g2; exact g2.1
      obtain ⟨d, hd⟩ := Option.isSome_iff_exists.1 hds
      refine hev.wpOp hgt hT ho hr fun a' w' hr' => ?_
      rw [hd] at hr'
      have hne' : ∀ i ∈ rest, j ≠ i := fun i h1 e => hjr (e ▸ h1)
      refine ih (listed.setIfInBounds j true) rest pre pd σ (s'.put (some d) v) a' w' (by simpa using hsz) hcnt' hv ⟨hi.ordk, hi.prw, fun i h1 h2 => hi.cov i h1 (hset i h2).2, fun i h1 => ?_, hi.pdp, hi.pdf, fun q hq hq2 => hi.ev q hq (hset q.1 hq2).2, hi.m, hi.n, hi.st, fun t ht => ?_⟩ hr'
      · rw [getD_set_ne true (hne' i h1)]
        exact hi.un i h1
      · simp only [S.put, look_cons]
        by_cases e : t = d
        · subst e
          rw [if_pos rfl]
          exact (g4 t hd).symm
        · rw [if_neg e]
          refine hi.env t fun q hq1 hq2 hdq => ?_
          by_cases ej : q.1 = j
          · rw [ej] at hdq
            simp [dstOf, ho, hd] at hdq
            exact e hdq.symm
          · exact ht q hq1 (by rw [getD_set_ne true (Ne.symm ej)]; exact hq2) hdq
end

/-- A DRAWN REGION whose readings float. -/
theorem W.drawnF {kk : Nat} {id : Nat} {ops : Array Oper} {s : S} {Q : Exit → S → Prop} (hs : List (Nat × Hint)) (fc ord : List Nat) (hT : TOk P T) (hm : P.follows .mixedOrders = true) (hc : gchk hs ops fc ord = true)
    (hv : vcF P T hs ops fc ord [] s fun s' => Q .normal s') : W kk P (.region id ops true) s Q := fun w0 wr A a w hkk ⟨L, F, hr⟩ => by
  have hc := gchk_spec hc
  refine wp_region_any hm (float_ok hkk.2 hT hc (K := fun s' => Q .normal s') (fun s a w hr hk => ⟨s, hr, hk⟩) ops.size _ ord [] [] s s a _ (by simp) ?_ hv ⟨hc.ord, fun k hk => (by cases hk), fun i hi _ => .inl (hc.mem i hi), fun i hi => ?_, fun q hq => (by cases hq), fun q hq => (by cases hq), fun q hq => (by cases hq), rfl, rfl, rfl, fun t _ => rfl⟩ ⟨L, F, hr.drew⟩)
  · have : ∀ (f : Nat → Bool) n, cntU f n ≤ n := fun f n => by
      induction n with
      | zero => exact Nat.le_refl _
      | succ n ih => simp only [cntU]; split <;> omega
    exact this _ _
  · have : ∀ {r pre : List Nat}, ordOk hs ops fc pre r = true → ∀ x ∈ r, x < ops.size := fun {r} => by
      induction r with
      | nil => intro pre _ x hx; cases hx
      | cons i r ih =>
        intro pre h x hx
        obtain ⟨h1, _, _, _, h2⟩ := ordOk_cons hc h
        rcases List.mem_cons.1 hx with rfl | hx
        · exact h1
        · exact ih h2 x hx
    have hlt := this hc.ord i hi
    simp [Array.getD_eq_getD_getElem?, hlt]
end Mg

/- The abstract state logic, part 20: renaming, loops, what a whole code asks for. No condition. -/
namespace Mg
open Go Go.RowKit
set_option linter.unusedVariables false

variable {P : Program} {T : Tab}

def MC.ren (β : Nat → Nat) : MC → MC
  | .ref i o l => .ref (β i) o l
  | .ptr i r o => .ptr (β i) r o
  | c => c
def MV.ren1 (β : Nat → Nat) : MV → MV
  | .one c => .one (c.ren β)
  | .agg cs => .agg (cs.map (MC.ren β))
  | v => v
def MV.ren (β : Nat → Nat) : MV → MV
  | .tup vs => .tup (vs.map (MV.ren1 β))
  | v => v.ren1 β
def ObR (β : Nat → Nat) : Ob → Ob → Prop
  | .box cs', .box cs => cs = cs'.map (MC.ren β)
  | .arr rows', .arr rows => rows' = rows ∧ ∀ r ∈ rows, ∀ c ∈ r, c.ren β = c
  | _, _ => False

/-- s' is part of s, its names sent into s's. -/
structure SubR (β : Nat → Nat) (s' s : S) : Prop where
  m : s'.m = s.m
  env : ∀ t v, look s'.env t = some v → look s.env t = some (v.ren β) ∧ v.bd s'.n
  st : ∀ id o, look s'.st id = some o → (∃ q, look s.st (β id) = some q ∧ ObR β o q) ∧ id < s'.n ∧ o.bd s'.n
  inj : ∀ i j, (look s'.st i).isSome = true → (look s'.st j).isSome = true → β i = β j → i = j

theorem Rl.ren {w0 : World} {wr : Wr} {A : Nat → Prop} {L : Lay} {F : FF} {s : S} {a : Act} {w : World} (h : Rl w0 wr A L F s a w) {β : Nat → Nat} {s' : S} (hs : SubR β s' s) (hk : ∀ i, i < wr.k → β i = i ∧ i < s'.n) : Rl w0 wr A (fun i => L (β i)) F s' a w := by
  have hsome : ∀ id, (look s'.st id).isSome = true → (look s.st (β id)).isSome = true := fun id hid => by
    obtain ⟨o, ho⟩ := Option.isSome_iff_exists.1 hid
    obtain ⟨⟨q, hq, _⟩, _⟩ := hs.st id o ho
    rw [hq]; rfl
  have hi : ∀ c : MC, ∀ u, RC (look s.st) L w F (c.ren β) u → RC (look s'.st) (fun i => L (β i)) w F c u := fun c u hr => by
    cases c with
    | ref id off len =>
      refine ⟨hr.1, fun rows hrw => ?_⟩
      obtain ⟨⟨q, hq, hob⟩, _⟩ := hs.st id _ hrw
      cases q with
      | box cs => exact hob.elim
      | arr rows2 =>
        obtain ⟨rfl, _⟩ := hob
        exact hr.2 rows hq
    | ptr id row off => exact ⟨hr.1, fun hsm => hr.2 (hsome id hsm)⟩
    | _ => exact hr
  have hr1 : ∀ v : MV, ∀ u, RV1 (look s.st) L w F (v.ren1 β) u → RV1 (look s'.st) (fun i => L (β i)) w F v u := fun v u hr => by
    cases v with
    | un => trivial
    | one c => exact hi c u hr
    | agg cs =>
      obtain ⟨arr, rfl, hsz, hc⟩ := hr
      refine ⟨arr, rfl, by simpa using hsz, fun j c hj => ?_⟩
      obtain ⟨u, hu, hru⟩ := hc j (c.ren β) (by simp [hj])
      exact ⟨u, hu, hi c u hru⟩
    | tup vs => exact hr.elim
  refine ⟨h.os, h.tape, h.output, h.size, h.keep, h.kc, fun i hi => ⟨by rw [(hk i hi).1]; exact (h.pin i hi).1, (hk i hi).2⟩, h.fa, h.fn, h.fsz, ?_, ?_, ?_, h.sz.trans hs.m.symm, ?_, ?_, ?_, h.df⟩
  · intro id o ho
    obtain ⟨⟨q, hq, hob⟩, _⟩ := hs.st id o ho
    have hok := h.ob (β id) q hq
    cases o with
    | box cs' =>
      cases q with
      | arr rows => exact hob.elim
      | box cs =>
        obtain rfl : cs = cs'.map (MC.ren β) := hob
        obtain ⟨b, t, hL, hf, hw⟩ := hok
        exact ⟨b, t, hL, hf, fun j c hj => by
          obtain ⟨u, hu, hru⟩ := hw j (c.ren β) (by simp [hj])
          exact ⟨u, hu, hi c u hru⟩⟩
    | arr rows' =>
      cases q with
      | box cs => exact hob.elim
      | arr rows =>
        obtain ⟨rfl, hfix⟩ := hob
        rcases hok with ⟨h1, h2⟩ | ⟨b, t, hL, hf, hlen, hw⟩
        · exact .inl ⟨h1, h2⟩
        · exact .inr ⟨b, t, hL, hf, hlen, fun i r hr j c hj => by
            obtain ⟨u, hu, hru⟩ := hw i r hr j c hj
            refine ⟨u, hu, hi c u ?_⟩
            rw [hfix r (List.mem_of_getElem? hr) c (List.mem_of_getElem? hj)]
            exact hru⟩
  · exact fun id b t h1 h2 => h.own (β id) b t (hsome id h1) h2
  · exact fun i j b t u h1 h2 h3 h4 => hs.inj i j h1 h2 (h.inj (β i) (β j) b t u (hsome i h1) (hsome j h2) h3 h4)
  · intro t v hv
    have hr := h.env t _ (hs.env t v hv).1
    cases v with
    | tup vs =>
      obtain ⟨arr, he, hsz, hc⟩ := hr
      refine ⟨arr, he, by simpa using hsz, fun j x hj => ?_⟩
      obtain ⟨u, hu, hru⟩ := hc j (x.ren1 β) (by simp [hj])
      exact ⟨u, hu, hr1 x u hru⟩
    | un => trivial
    | one c => exact hi c _ hr
    | agg cs => exact hr1 (.agg cs) _ hr
  · exact fun id o ho => (hs.st id o ho).2
  · exact fun t v hv => (hs.env t v hv).2

theorem W.ren {k : Nat} {c : Code} {s s' : S} {Q : Exit → S → Prop} {β : Nat → Nat} (hs : SubR β s' s) (hp : ∀ i, i < k → β i = i ∧ i < s'.n) (h : W k P c s' Q) : W k P c s Q := fun w0 wr A a w hk ⟨L, F, hr⟩ =>
  h w0 wr A a w hk ⟨_, F, hr.ren hs (hk.1 ▸ hp)⟩

/- The same, reckoned. -/
def eqU : Value → Value → Prop
  | .int k a, .int k' b => k = k' ∧ Side (a = b)
  | .bool a, .bool b => Side (a = b)
  | .string a, .string b => Side (a = b)
  | a, b => Side (a = b)
def eqC : MC → MC → Prop
  | .dead, .dead => True
  | .nil, .nil => True
  | .sc a, .sc b => eqU a b
  | .fz a, .fz b => Side (a = b)
  | .ag a, .ag b => Side (a = b)
  | .own a, .own b => Side (a = b)
  | .fptr a, .fptr b => Side (a = b)
  | .aptr a, .aptr b => Side (a = b)
  | .ref i o l, .ref i' o' l' => i = i' ∧ Side (o = o') ∧ Side (l = l')
  | .ptr i o l, .ptr i' o' l' => i = i' ∧ Side (o = o') ∧ Side (l = l')
  | .tr o B u a, .tr o' B' u' b => (o = o' ∧ B = B' ∧ u = u') ∧ Side (a = b)
  | _, _ => False
def eqL : List MC → List MC → Prop
  | [], [] => True
  | a :: as, b :: bs => eqC a b ∧ eqL as bs
  | _, _ => False
def eqV1 : MV → MV → Prop
  | .un, .un => True
  | .one a, .one b => eqC a b
  | .agg a, .agg b => eqL a b
  | .tup a, .tup b => Side (a = b)
  | _, _ => False
theorem eqU_ok {a b : Value} (h : eqU a b) : a = b := by
  unfold eqU at h
  split at h
  · obtain ⟨rfl, ⟨rfl⟩⟩ := h; rfl
  · obtain ⟨rfl⟩ := h; rfl
  · obtain ⟨rfl⟩ := h; rfl
  · exact h.h
theorem eqC_ok {a b : MC} (h : eqC a b) : a = b := by
  unfold eqC at h
  split at h
  · rfl
  · rfl
  · rw [eqU_ok h]
  · rw [h.h]
  · rw [h.h]
  · rw [h.h]
  · rw [h.h]
  · rw [h.h]
  · rw [h.1, h.2.1.h, h.2.2.h]
  · rw [h.1, h.2.1.h, h.2.2.h]
  · obtain ⟨⟨rfl, rfl, rfl⟩, ⟨rfl⟩⟩ := h; rfl
  · exact h.elim
theorem eqL_ok : ∀ {a b : List MC}, eqL a b → a = b
  | [], [], _ => rfl
  | a :: as, b :: bs, h => by rw [eqC_ok h.1, eqL_ok h.2]
  | [], _ :: _, h => h.elim
  | _ :: _, [], h => h.elim
theorem eqV1_ok {a b : MV} (h : eqV1 a b) : a = b := by
  unfold eqV1 at h
  split at h
  · rfl
  · rw [eqC_ok h]
  · rw [eqL_ok h]
  · rw [h.h]
  · exact h.elim

def bdC (n : Nat) : MC → Prop
  | .ref id _ _ => Chk (Nat.blt id n)
  | .ptr id _ _ => Chk (Nat.blt id n)
  | _ => True
def bdL (n : Nat) : List MC → Prop
  | [] => True
  | c :: cs => bdC n c ∧ bdL n cs
theorem bdC_ok {n : Nat} {c : MC} (h : bdC n c) : c.bd n := by cases c <;> first | trivial | exact (by simpa using (show Chk _ from h).h : _ < n)
theorem bdL_ok {n : Nat} : ∀ {cs : List MC}, bdL n cs → ∀ c ∈ cs, c.bd n
  | [], _, c, hc => by simp at hc
  | x :: xs, h, c, hc => by
    rcases List.mem_cons.1 hc with rfl | hc
    · exact bdC_ok h.1
    · exact bdL_ok h.2 c hc

def MC.flat : MC → Bool
  | .ref _ _ _ => false
  | .ptr _ _ _ => false
  | _ => true
theorem MC.flat_bd {c : MC} {n : Nat} (h : c.flat = true) : c.bd n := by cases c <;> first | trivial | (simp [MC.flat] at h)
theorem MC.frz_flat {c : MC} (h : c.frz = true) : c.flat = true := by cases c <;> first | rfl | (simp [MC.frz] at h)

def envC (bl : List (Nat × Nat)) (n : Nat) (env : List (Nat × MV)) : List (Nat × MV) → Prop
  | [] => True
  | (t, v) :: l => (match look env t with
    | some u => match v with
      | .one c => eqV1 (.one (c.ren fun i => (look bl i).getD i)) u ∧ bdC n c
      | .agg cs => eqV1 (.agg (cs.map (MC.ren fun i => (look bl i).getD i))) u ∧ bdL n cs
      | .un => eqV1 .un u
      | .tup _ => False
    | none => False) ∧ envC bl n env l
def stC (bl : List (Nat × Nat)) (n : Nat) (st : List (Nat × Ob)) : List (Nat × Ob) → Prop
  | [] => True
  | (id, o) :: l => (match look st ((look bl id).getD id) with
    | some q => match o, q with
      | .box cs', .box cs => eqL cs (cs'.map (MC.ren fun i => (look bl i).getD i)) ∧ bdL n cs'
      | .arr rows', .arr rows => Side (rows' = rows) ∧ Side (∀ r ∈ rows', ∀ c ∈ r, c.flat = true)
      | _, _ => False
    | none => False) ∧ Chk (Nat.blt id n) ∧ stC bl n st l
/-- s' is part of s. -/
def subC (k : Nat) (bl : List (Nat × Nat)) (s' s : S) : Prop :=
  Chk ((List.range k).all fun i => Nat.beq ((look bl i).getD i) i && Nat.blt i s'.n) ∧ Chk (Nat.beq s'.m s.m) ∧ envC bl s'.n s.env s'.env ∧ stC bl s'.n s.st s'.st ∧ Chk (s'.st.all fun q => s'.st.all fun r => q.1 == r.1 || (look bl q.1).getD q.1 != (look bl r.1).getD r.1)

theorem look_in {α : Type} : ∀ {l : List (Nat × α)} {t : Nat} {i : α}, look l t = some i → (t, i) ∈ l
  | (k, v) :: l, t, i, h => by
    rw [look_cons] at h
    split at h
    · rename_i e; subst e; cases h; exact List.mem_cons_self
    · exact List.mem_cons_of_mem _ (look_in h)

theorem subC_pin {k : Nat} {bl : List (Nat × Nat)} {s' s : S} (h : subC k bl s' s) : ∀ i, i < k → (look bl i).getD i = i ∧ i < s'.n := fun i hi => by
  obtain ⟨⟨h0⟩, _⟩ := h
  have := List.all_eq_true.1 h0 i (List.mem_range.2 hi)
  simp only [Bool.and_eq_true, Nat.beq_eq, Nat.blt_eq] at this
  exact this
theorem subC_ok {k : Nat} {bl : List (Nat × Nat)} {s' s : S} (h : subC k bl s' s) : SubR (fun i => (look bl i).getD i) s' s := by
  obtain ⟨_, ⟨h1⟩, h2, h3, ⟨h4⟩⟩ := h
  have h1 : s'.m = s.m := Nat.eq_of_beq_eq_true h1
  refine ⟨h1, fun t v hv => ?_, fun id o ho => ?_, fun i j hi hj he => ?_⟩
  · have hm := look_in hv
    clear hv
    generalize s'.env = l at h2 hm
    induction l with
    | nil => simp at hm
    | cons x l ih =>
      obtain ⟨t', v'⟩ := x
      obtain ⟨hx, hl⟩ := h2
      rcases List.mem_cons.1 hm with e | hm
      · obtain ⟨rfl, rfl⟩ := Prod.mk.inj e
        split at hx
        · rename_i u hu
          split at hx
          · exact ⟨by rw [hu, ← eqV1_ok hx.1]; rfl, bdC_ok hx.2⟩
          · exact ⟨by rw [hu, ← eqV1_ok hx.1]; rfl, bdL_ok hx.2⟩
          · exact ⟨by rw [hu, ← eqV1_ok hx]; rfl, trivial⟩
          · exact hx.elim
        · exact hx.elim
      · exact ih hl hm
  · have hm := look_in ho
    clear ho h4
    generalize s'.st = l at h3 hm
    induction l with
    | nil => simp at hm
    | cons x l ih =>
      obtain ⟨t', v'⟩ := x
      obtain ⟨hx, ⟨hlt⟩, hl⟩ := h3
      rcases List.mem_cons.1 hm with e | hm
      · obtain ⟨rfl, rfl⟩ := Prod.mk.inj e
        have hlt : id < s'.n := by simpa using hlt
        split at hx
        · rename_i q hq
          split at hx
          · exact ⟨⟨_, hq, eqL_ok hx.1⟩, hlt, bdL_ok hx.2⟩
          · obtain ⟨⟨rfl⟩, ⟨hf⟩⟩ := hx
            refine ⟨⟨_, hq, rfl, fun r hr c hc => ?_⟩, hlt, fun r hr c hc => MC.flat_bd (hf r hr c hc)⟩
            have := hf r hr c hc
            cases c <;> first | rfl | (simp [MC.flat] at this)
          · exact hx.elim
        · exact hx.elim
      · exact ih hl hm
  · obtain ⟨x, hx⟩ := Option.isSome_iff_exists.1 hi
    obtain ⟨y, hy⟩ := Option.isSome_iff_exists.1 hj
    simp only [List.all_eq_true, Bool.or_eq_true, beq_iff_eq, bne_iff_ne] at h4
    rcases h4 _ (look_in hx) _ (look_in hy) with h | h
    · exact h
    · exact absurd he h

theorem tf {p : Prop} (h : true = false) : p := Bool.noConfusion h
theorem ft {p : Prop} (h : false = true) : p := Bool.noConfusion h
theorem tt {p : Prop} (h : p) (_ : true = true) : p := h
theorem ff {p : Prop} (h : p) (_ : false = false) : p := h
theorem sLe {n m : Nat} (h : Nat.ble n m = true) : Side (n ≤ m) := ⟨Nat.le_of_ble_eq_true h⟩
theorem sLeEq {a b c d : Nat} (h : Nat.ble a b = true) (h2 : c = d) : Side (a ≤ b ∧ c = d) := ⟨Nat.le_of_ble_eq_true h, h2⟩
theorem sAnd {p q : Prop} (h1 : p) (h2 : q) : Side (p ∧ q) := ⟨h1, h2⟩
theorem sRow {n : Int} {rows : List (List MC)} {row : List MC} {k : Nat} (h0 : 0 ≤ n) (h : rows[n.toNat]? = some row) (hl : row.length = k) : Side (0 ≤ n ∧ rows[n.toNat]? = some row ∧ row.length = k) := ⟨h0, h, hl⟩
theorem row_at {α : Type} [Inhabited α] (xs : List α) (f : α → List MC) {i : Nat} (h : i < xs.length) : (xs.map f)[((i : Int)).toNat]? = some (f (xs.getD i default)) := by
  simp [List.getElem?_map, List.getD_eq_getElem?_getD, List.getElem?_eq_getElem h]
theorem wrapi {n : Int} (h1 : -9223372036854775808 ≤ n) (h2 : n ≤ 9223372036854775807) : IntKind.i64.wrap n = n := by
  unfold IntKind.wrap
  simp [IntKind.signed, IntKind.bits]
  omega

/-- An order that a hint gives. -/
def ordH : List MC → List Nat
  | .sc (.int _ n) :: l => n.toNat :: ordH l
  | _ => []
/-- The first region of a piece of code. -/
def fstR : Code → Option Nat
  | .region id _ _ => some id
  | .seq x _ => fstR x
  | .block _ c => fstR c
  | .loop c => fstR c
  | _ => none
/-- Are new hints wanted here? -/
def askR (hs : List (Nat × Hint)) (c : Code) : Bool := match fstR c with
  | some id => (look hs (800000 + id)).isSome
  | none => false
/-- What the code asks for. Loops stay as they are. -/
def vc (k : Nat) (P : Program) (T : Tab) : Code → List (Nat × Hint) → S → (Exit → S → Prop) → Prop
  | .skip, hs, s, Q => Q .normal s
  | .exit id, hs, s, Q => Q (.exit id) s
  | .ret, hs, s, Q => match (look hs 700000).isSome with
    | true => W k P .ret s Q
    | false => Q .ret s
  | .seq x y, hs, s, Q => match askR hs x with
    | true => W k P (.seq x y) s Q
    | false => vc k P T x hs s (thn (fun s' => vc k P T y hs s' Q) Q)
  | .block id c, hs, s, Q => vc k P T c hs s (blk id Q)
  | .cond c x y, hs, s, Q => match evO s c with
    | some (.one (.sc (.bool b))) => (b = true → vc k P T x hs s Q) ∧ (b = false → vc k P T y hs s Q)
    | _ => False
  | .region id ops false, hs, s, Q => match (look hs (600000 + id)).isSome with
    | true => W k P (.region id ops false) s Q
    | false => vcOps P T hs ops ops.toList s fun s' => Q .normal s'
  | .region id ops true, hs, s, Q => match hintOf hs (some (940000 + id)) with
    | some (.row cs) => Chk (dchk hs ops ((ordH cs).headD 0)) ∧ vcOps P T hs ops ops.toList s fun s' => Q .normal s'
    | _ => match hintOf hs (some (900000 + id)) with
      | some (.row cs) => match hintOf hs (some (950000 + id)) with
        | some (.row fc) => Chk (gchk hs ops (ordH fc) (ordH cs)) ∧ vcF P T hs ops (ordH fc) (ordH cs) [] s fun s' => Q .normal s'
        | _ => Chk (gchk hs ops [] (ordH cs)) ∧ vcF P T hs ops [] (ordH cs) [] s fun s' => Q .normal s'
      | _ => Chk (dchk hs ops (ops.toList.takeWhile fun o => quiet (hintOf hs o.dst) o).length) ∧ vcOps P T hs ops ops.toList s fun s' => Q .normal s'
  | c, hs, s, Q => W k P c s Q

theorem vc_ok {k : Nat} (hT : TOk P T) (hm : P.follows .mixedOrders = true) : ∀ (c : Code) {hs : List (Nat × Hint)} (s : S) (Q : Exit → S → Prop), vc k P T c hs s Q → W k P c s Q := by
  intro c
  induction c with
  | seq x y hx hy =>
    intro hs s Q h
    simp only [vc] at h
    split at h
    · exact h
    · refine W.seq fun K hK => ?_
      refine (hx s _ h).mono fun e s' h' => ?_
      cases e <;> first | exact hK s' (hy s' Q h') | exact h'
  | block id c hc => intro hs s Q h; exact W.block (hc s _ h)
  | cond c x y hx hy =>
    intro hs s Q h
    simp only [vc] at h
    split at h
    · rename_i b he
      refine W.cond he ?_
      cases b
      · exact hy s Q (h.2 rfl)
      · exact hx s Q (h.1 rfl)
    · exact h.elim
  | region id ops d =>
    intro hs s Q h
    cases d
    · simp only [vc] at h
      split at h
      · exact h
      · exact W.region (vcOps_ok hT _ _ _ h)
    · simp only [vc] at h
      split at h
      · exact W.drawn hs _ hT hm h.1.h h.2
      · split at h
        · split at h
          · exact W.drawnF hs _ _ hT hm h.1.h h.2
          · exact W.drawnF hs _ _ hT hm h.1.h h.2
        · exact W.drawn hs _ hT hm h.1.h h.2
  | skip => intro hs s Q h; exact W.skip h
  | exit id => intro hs s Q h; exact W.exit h
  | ret =>
    intro hs s Q h
    simp only [vc] at h
    split at h
    · exact h
    · exact W.ret h
  | _ => intro hs s Q h; exact h

/-- On with new hints. -/
theorem W.go {k : Nat} {c : Code} {s : S} {Q : Exit → S → Prop} (hs : List (Nat × Hint)) (hT : TOk P T) (hm : P.follows .mixedOrders = true) (h : vc k P T c hs s Q) : W k P c s Q := vc_ok hT hm c s Q h

/-- A loop whose head's states are a family. -/
theorem W.loopC {k : Nat} {D : Type} (hs : D → List (Nat × Hint)) (hT : TOk P T) (hm : P.follows .mixedOrders = true) {c : Code} {s : S} {Q : Exit → S → Prop} (st : D → S) (μ : D → Nat) (inv : D → Prop) (d0 : D) (bl : List (Nat × Nat)) (h0 : inv d0) (hsub : subC k bl (st d0) s)
    (h : ∀ d, inv d → vc k P T c (hs d) (st d) (thn (fun s' => ∃ (d' : D) (bl : List (Nat × Nat)), μ d' < μ d ∧ inv d' ∧ subC k bl (st d') s') Q)) : W k P (.loop c) s Q := by
  refine W.loop (fun n s' => ∃ d bl, n = μ d ∧ inv d ∧ subC k bl (st d) s') (μ d0) ⟨d0, bl, rfl, h0, hsub⟩ fun n s' ⟨d, bl, hn, hi, hsb⟩ => ?_
  refine W.ren (subC_ok hsb) (subC_pin hsb) ((vc_ok hT hm _ _ _ (h d hi)).mono fun e s'' hq => ?_)
  cases e with
  | normal =>
    obtain ⟨d', bl', h1, h2, h3⟩ := hq
    exact ⟨μ d', hn ▸ h1, d', bl', rfl, h2, h3⟩
  | _ => exact hq

/-- A FUNCTION's CONTRACT out of its reckoning. -/
theorem Pure.vc {sh : Bool} {f : Nat} {fn : Func} {c : Code} {args : List MV} {r : MV} (hs : List (Nat × Hint)) (hT : TOk P T) (hm : P.follows .mixedOrders = true) (hf : P.funcs[f]? = some fn) (hn : (fn.name == "runtime.NumGoroutine") = false) (hb : fn.body = some c) (hl : Nat.ble args.length fn.ntmps = true)
    (h : fS (S.start fn.ntmps args) fun s => vc 0 P T c hs s (endE T sh fn r)) : Pure P sh f args r := by
  rw [fS_eq] at h
  refine Pure.of hT hf hn hb (Nat.le_of_ble_eq_true hl) ((vc_ok hT hm _ _ _ h).mono fun e s h' => ?_)
  cases e <;> first | exact ⟨.inl rfl, endF_ok h'⟩ | exact ⟨.inr rfl, endF_ok h'⟩ | exact h'.elim

end Mg

/- The abstract state logic, part 22: lists that fill up, lists that are compared. No condition. -/
namespace Mg
open Go Go.RowKit
set_option linter.unusedVariables false
set_option linter.unusedSectionVars false

section
variable {α : Type} [Inhabited α]

/-- A made list, filled so far. -/
def part (c : α → List MC) (z : List MC) (xs : List α) (i : Nat) : List (List MC) := (xs.take i).map c ++ List.replicate (xs.length - i) z

theorem getD_get {xs : List α} {i : Nat} (h : i < xs.length) : xs.getD i default = xs[i] := by
  simp [List.getD_eq_getElem?_getD, List.getElem?_eq_getElem h]
theorem part_len {c : α → List MC} {z : List MC} {xs : List α} {i : Nat} (h : i ≤ xs.length) : (part c z xs i).length = xs.length := by
  simp [part]; omega
theorem part_zero {c : α → List MC} {z : List MC} {xs : List α} : part c z xs 0 = List.replicate xs.length z := by simp [part]
theorem part_all {c : α → List MC} {z : List MC} {xs : List α} {i : Nat} (h : xs.length ≤ i) : part c z xs i = xs.map c := by
  have : xs.length - i = 0 := by omega
  simp [part, this, List.take_of_length_le h]
theorem part_get {c : α → List MC} {z : List MC} {xs : List α} {i : Nat} (h : i < xs.length) : (part c z xs i).getD i [] = z := by
  have h1 : ((xs.take i).map c).length = i := by simp; omega
  unfold part
  rw [List.getD_eq_getElem?_getD, List.getElem?_append_right (by omega), h1, Nat.sub_self, List.getElem?_replicate, if_pos (by omega)]
  rfl
theorem part_set {c : α → List MC} {z : List MC} {xs : List α} {i : Nat} (h : i < xs.length) : (part c z xs i).set i (c (xs.getD i default)) = part c z xs (i + 1) := by
  have h1 : ((xs.take i).map c).length = i := by simp; omega
  unfold part
  rw [List.set_append_right _ _ (by omega), h1, Nat.sub_self]
  obtain ⟨m, hm⟩ : ∃ m, xs.length - i = m + 1 := ⟨xs.length - i - 1, by omega⟩
  have hm' : xs.length - (i + 1) = m := by omega
  rw [hm, hm', List.replicate_succ, List.set_cons_zero, List.take_succ_eq_append_getElem h, List.map_append, getD_get h]
  simp
theorem part_flat {c : α → List MC} {z : List MC} {xs : List α} {i : Nat} (hc : ∀ x, (c x).all MC.flat = true) (hz : z.all MC.flat = true) : ∀ r ∈ part c z xs i, ∀ x ∈ r, x.flat = true := fun r hr x hx => by
  unfold part at hr
  rcases List.mem_append.1 hr with h | h
  · obtain ⟨y, _, rfl⟩ := List.mem_map.1 h
    exact List.all_eq_true.1 (hc y) x hx
  · rw [(List.mem_replicate.1 h).2] at hx
    exact List.all_eq_true.1 hz x hx
theorem map_frz {c : α → List MC} {xs : List α} (hc : ∀ x, (c x).all MC.frz = true) : ∀ r ∈ xs.map c, ∀ x ∈ r, x.frz = true := fun r hr x hx => by
  obtain ⟨y, _, rfl⟩ := List.mem_map.1 hr
  exact List.all_eq_true.1 (hc y) x hx

theorem eq_upto {xs ys : List α} {i : Nat} (hl : xs.length = ys.length) (hi : i < xs.length) (hp : xs.take i = ys.take i) (he : xs.getD i default = ys.getD i default) : xs.take (i + 1) = ys.take (i + 1) := by
  have e : xs[i] = ys[i]'(by omega) := by rwa [getD_get hi, getD_get (by omega)] at he
  rw [List.take_succ_eq_append_getElem hi, List.take_succ_eq_append_getElem (by omega), hp, e]
theorem eq_all {xs ys : List α} {i : Nat} (hl : xs.length = ys.length) (hi : xs.length ≤ i) (hp : xs.take i = ys.take i) : xs = ys := by
  rwa [List.take_of_length_le hi, List.take_of_length_le (by omega)] at hp

/- The steps of a loop that fills a made list. -/
theorem sPart0 {c : α → List MC} {z : List MC} {xs : List α} {n : Nat} (h : n = xs.length) : Side (part c z xs 0 = List.replicate n z) := ⟨by rw [part_zero, h]⟩
theorem sFlat {c : α → List MC} {z : List MC} {xs : List α} {i : Nat} (hc : ∀ x, (c x).all MC.flat = true) (hz : z.all MC.flat = true) : Side (∀ r ∈ part c z xs i, ∀ x ∈ r, x.flat = true) := ⟨part_flat hc hz⟩
theorem sIdx {c : α → List MC} {z : List MC} {xs : List α} {i n k : Nat} (h : i < xs.length) (hn : n = xs.length) (hz : z.length = k) :
    Side ((0 ≤ (i : Int) ∧ (i : Int) < (n : Int)) ∧ 0 + ((i : Int)).toNat < (part c z xs i).length ∧ ((part c z xs i).getD (0 + ((i : Int)).toNat) []).length = k) := by
  refine ⟨⟨by omega, by omega⟩, ?_, ?_⟩
  · rw [part_len (by omega)]; simp; omega
  · simp only [Int.toNat_natCast, Nat.zero_add, part_get h, hz]
theorem sPut {c : α → List MC} {z cs : List MC} {xs : List α} {i k : Nat} (h : i < xs.length) (hz : Nat.ble cs.length z.length = true) (hk : cs.length = k) :
    Side ((0 + ((i : Int)).toNat < (part c z xs i).length ∧ 0 + cs.length ≤ ((part c z xs i).getD (0 + ((i : Int)).toNat) []).length) ∧ cs.length = k) := by
  refine ⟨⟨?_, ?_⟩, hk⟩
  · rw [part_len (by omega)]; simp; omega
  · simp only [Int.toNat_natCast, Nat.zero_add, part_get h]; exact Nat.le_of_ble_eq_true hz
theorem sPartS {c : α → List MC} {z cs : List MC} {xs : List α} {i : Nat} (h : i < xs.length) (hp : putAt z 0 cs = c (xs.getD i default)) :
    Side (part c z xs (i + 1) = (part c z xs i).set (0 + ((i : Int)).toNat) (putAt ((part c z xs i).getD (0 + ((i : Int)).toNat) []) 0 cs)) := by
  refine ⟨?_⟩
  simp only [Int.toNat_natCast, Nat.zero_add, part_get h, hp, part_set h]
theorem part_end {c : α → List MC} {z : List MC} {xs : List α} {i n : Nat} (h : xs.length ≤ i) (hn : n = xs.length) : ((part c z xs i).drop 0).take n = xs.map c := by
  rw [part_all h, List.drop_zero, List.take_of_length_le (by simp [hn])]
end

theorem wrap_succ {i n : Nat} (h : i < n) (hn : n ≤ 9223372036854775807) : ((i + 1 : Nat) : Int) = IntKind.i64.wrap ((i : Int) + 1) := by
  rw [wrapi] <;> omega
theorem sAll {T : Tab} {l : List (Nat × Nat)} (h : (l.all fun g => (T g.2).isSome) = true) : Side (True ∧ ∀ g ∈ l, (T g.2).isSome = true) :=
  ⟨trivial, fun g hg => List.all_eq_true.1 h g hg⟩
theorem sBld {T : Tab} {a : Prop} {l : List (Nat × Nat)} (h1 : a) (h : (l.all fun g => (T g.2).isSome) = true) : Side (a ∧ ∀ g ∈ l, (T g.2).isSome = true) :=
  ⟨h1, fun g hg => List.all_eq_true.1 h g hg⟩
theorem sBS {a : Prop} {sz k m n : Nat} {cs : List MC} (h1 : a) (h2 : Nat.blt 0 sz = true) (h3 : Nat.ble (k * sz) 16777216 = true) (h4 : cs.length = n) (h5 : cs.all MC.frz = true) : Side (a ∧ (0 < sz ∧ k * sz ≤ 16777216) ∧ cs.length = n ∧ ∀ x ∈ cs, x.bd m) :=
  ⟨h1, ⟨Nat.lt_of_lt_of_le (Nat.lt_of_lt_of_le (Nat.zero_lt_one) (Nat.le_of_ble_eq_true h2)) (Nat.le_refl _), Nat.le_of_ble_eq_true h3⟩, h4, fun x hx => MC.bd_frz (List.all_eq_true.1 h5 x hx)⟩
theorem sBSF {a : Prop} {sz k n : Nat} {cs : List MC} (h1 : a) (h2 : Nat.blt 0 sz = true) (h3 : Nat.ble (k * sz) 16777216 = true) (h4 : cs.length = n) (h5 : (cs.all fun x => x.nf.frz) = true) : Side (a ∧ (0 < sz ∧ k * sz ≤ 16777216) ∧ cs.length = n ∧ ∀ x ∈ cs, x.nf.frz = true) :=
  ⟨h1, ⟨Nat.lt_of_lt_of_le (Nat.lt_of_lt_of_le (Nat.zero_lt_one) (Nat.le_of_ble_eq_true h2)) (Nat.le_refl _), Nat.le_of_ble_eq_true h3⟩, h4, fun x hx => List.all_eq_true.1 h5 x hx⟩
theorem sF1 {rows : List (List MC)} (h : (rows.all fun r => r.all MC.frz) = true) : Side (AllF rows ∧ True) :=
  ⟨fun r hr c hc => List.all_eq_true.1 (List.all_eq_true.1 h r hr) c hc, trivial⟩
end Mg
