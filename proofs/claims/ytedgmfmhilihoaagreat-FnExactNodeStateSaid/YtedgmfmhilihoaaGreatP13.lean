/- Parts of the abstract state logic and of the walks, one behind the other: Mg44, Mg39. No condition. -/
import Derived.Test.YtedgmfmhilihoaaGreatP11
/- The abstract state logic, part 44: drawn regions where some operations that write come in more orders than one. No condition. -/
namespace Mg
open Go Go.RowKit
set_option linter.unusedVariables false

variable {P : Program} {T : Tab}

/-- What may come instead of i, of what is left. -/
def altsOf (ops : Array Oper) (i : Nat) (r : List Nat) : List Nat := r.filter fun x => !((i :: r).any fun y => waits ops x y)
def vcAlts (P : Program) (T : Tab) (hs : List (Nat × Hint)) (all : Array Oper) (rec : List Nat → List (Nat × MV) → S → Prop) (l : List Nat) (pd : List (Nat × MV)) (s : S) : List Nat → Prop
  | [] => True
  | x :: xs => (match opAt all.toList x with
    | none => False
    | some o => vcStep P T hs s o fun s' => stays P T hs all (pd.filter fun q => !waits all x q.1) s' ∧ rec (l.erase x) (pd.filter fun q => !waits all x q.1) s') ∧ vcAlts P T hs all rec l pd s xs
def vcT (P : Program) (T : Tab) (hs : List (Nat × Hint)) (all : Array Oper) (K : S → Prop) : Nat → List Nat → List (Nat × MV) → S → Prop
  | _, [], _, s => K s
  | 0, _ :: _, _, _ => False
  | n + 1, i :: r, pd, s => match opAt all.toList i with
    | none => False
    | some o => match flo hs [] i o with
      | true => vcOps P T hs all [o] s fun s' => match s'.env with
        | (_, v) :: _ => vcT P T hs all K n r (pd ++ [(i, v)]) s'
        | [] => False
      | false => (vcStep P T hs s o fun s' => stays P T hs all (pd.filter fun q => !waits all i q.1) s' ∧ vcT P T hs all K n r (pd.filter fun q => !waits all i q.1) s') ∧
          vcAlts P T hs all (fun l pd s => vcT P T hs all K n l pd s) (i :: r) pd s (altsOf all i r)
def fits (ops : Array Oper) (pre : List Nat) (i : Nat) : Bool := Nat.blt i ops.size && ((List.range ops.size).all fun j => !waits ops i j || pre.contains j) && !pre.contains i
def ordT (hs : List (Nat × Hint)) (ops : Array Oper) : Nat → List Nat → List Nat → Bool
  | _, _, [] => true
  | 0, _, _ :: _ => false
  | n + 1, pre, i :: r => fits ops pre i && ordT hs ops n (i :: pre) r && (isQ hs ops [] i || (altsOf ops i r).all fun x => !isQ hs ops [] x && fits ops pre x && ordT hs ops n (x :: pre) ((i :: r).erase x))
def gchkT (hs : List (Nat × Hint)) (ops : Array Oper) (ord : List Nat) : Bool :=
  ((List.range ops.size).all fun i => ord.contains i) &&
  ((List.range ops.size).all fun i => (ops[i]?).any fun o => quiet (hintOf hs o.dst) o || chainOp (hintOf hs o.dst) o) &&
  ((List.range ops.size).all fun i => (ops[i]?).any fun o => o.after.all fun e => !Region.binds .any e || Nat.blt e.on i) &&
  ((List.range ops.size).all fun i => (List.range ops.size).all fun j => Nat.beq i j || (match dstOf ops i with | none => true | some t => dstOf ops j != some t)) &&
  ((List.range ops.size).all fun i => (ops[i]?).any fun o => (o.looksAt ops).all fun t => (List.range ops.size).all fun j => dstOf ops j != some t || waits ops i j) &&
  ordT hs ops ord.length [] ord
structure GT4 (hs : List (Nat × Hint)) (ops : Array Oper) : Prop where
  kind : ∀ (i : Nat) (o : Oper), ops[i]? = some o → quiet (hintOf hs o.dst) o = true ∨ chainOp (hintOf hs o.dst) o = true
  down : ∀ (i : Nat) (o : Oper), ops[i]? = some o → ∀ e ∈ o.after, Region.binds .any e = true → e.on < i
  uniq : ∀ (i j t : Nat), i ≠ j → dstOf ops i = some t → dstOf ops j ≠ some t
  look : ∀ (i : Nat) (o : Oper), ops[i]? = some o → ∀ t ∈ o.looksAt ops, ∀ j, dstOf ops j = some t → waits ops i j = true
theorem gchkT_spec {hs : List (Nat × Hint)} {ops : Array Oper} {ord : List Nat} (h : gchkT hs ops ord = true) : GT4 hs ops ∧ (∀ i, i < ops.size → i ∈ ord) ∧ ordT hs ops ord.length [] ord = true := by
  simp only [gchkT, Bool.and_eq_true] at h
  obtain ⟨⟨⟨⟨⟨c1, c2⟩, c3⟩, c4⟩, c5⟩, c6⟩ := h
  simp only [List.all_eq_true, List.mem_range] at c1 c2 c3 c4 c5
  have lt_of : ∀ {i : Nat} {o : Oper}, ops[i]? = some o → i < ops.size := fun {i o} ho => (Array.getElem?_eq_some_iff.1 ho).1
  refine ⟨⟨fun i o ho => ?_, fun i o ho e he hb => ?_, fun i j t hne hi hj => ?_, fun i o ho t ht j hj => ?_⟩, fun i hi => by simpa using c1 i hi, c6⟩
  · have := c2 i (lt_of ho)
    rw [ho] at this
    simpa [Option.any_some, Bool.or_eq_true] using this
  · have := c3 i (lt_of ho)
    rw [ho] at this
    simp only [Option.any_some, Array.all_eq_true_iff_forall_mem, Bool.or_eq_true, Bool.not_eq_true'] at this
    rcases this e he with h0 | h0
    · rw [hb] at h0; cases h0
    · simpa using h0
  · have := c4 i (dstOf_lt hi) j (dstOf_lt hj)
    rw [hi] at this
    simp only [Bool.or_eq_true, bne_iff_ne, ne_eq] at this
    rcases this with h0 | h0
    · exact hne (Nat.eq_of_beq_eq_true h0)
    · exact h0 hj
  · have := c5 i (lt_of ho)
    rw [ho] at this
    simp only [Option.any_some, List.all_eq_true, List.mem_range, Bool.or_eq_true, bne_iff_ne, ne_eq] at this
    rcases this t ht j (dstOf_lt hj) with h0 | h0
    · exact absurd hj h0
    · exact h0

section
variable {w0 : World} {wr : Wr} {A : Nat → Prop} {Q : Exit → Act → World → Prop} {all : Array Oper}
structure InvT (P : Program) (T : Tab) (hs : List (Nat × Hint)) (all : Array Oper) (n : Nat) (rest pre : List Nat) (pd : List (Nat × MV)) (listed : Array Bool) (σ s' : S) : Prop where
  ordk : ordT hs all n pre rest = true
  prw : ∀ k ∈ pre, ∀ j, waits all k j = true → j ∈ pre
  cov : ∀ i, i < all.size → listed.getD i true = false → i ∈ rest ∨ ∃ v, (i, v) ∈ pd
  un : ∀ i ∈ rest, listed.getD i true = false
  pdp : ∀ q ∈ pd, q.1 ∈ pre
  ev : ∀ q ∈ pd, listed.getD q.1 true = false → ∃ o, all[q.1]? = some o ∧ quiet (hintOf hs o.dst) o = true ∧ Ev P T hs all σ o q.2 ∧ ∀ d, o.dst = some d → look σ.env d = some q.2
  m : σ.m = s'.m
  n : σ.n = s'.n
  st : σ.st = s'.st
  env : ∀ t, (∀ q ∈ pd, listed.getD q.1 true = false → dstOf all q.1 ≠ some t) → look s'.env t = look σ.env t

theorem GT4.below {hs : List (Nat × Hint)} (hc : GT4 hs all) {i j : Nat} (h : waits all i j = true) : j < i ∧ i < all.size := by
  have hi := waits_lt h
  obtain ⟨e, he, hb, rfl⟩ := waits_spec (Array.getElem?_eq_getElem hi) h
  exact ⟨hc.down i _ (Array.getElem?_eq_getElem hi) e he hb, hi⟩
theorem fits_ok {hs : List (Nat × Hint)} {pre : List Nat} {i : Nat} (hc : GT4 hs all) (h : fits all pre i = true) : i < all.size ∧ (∀ j, waits all i j = true → j ∈ pre) ∧ i ∉ pre := by
  simp only [fits, Bool.and_eq_true] at h
  obtain ⟨⟨h1, h2⟩, h3⟩ := h
  refine ⟨by simpa using h1, fun j hw => ?_, by simpa using h3⟩
  simp only [List.all_eq_true, List.mem_range, Bool.or_eq_true, Bool.not_eq_true'] at h2
  obtain ⟨g1, g2⟩ := hc.below hw
  rcases h2 j (by omega) with h0 | h0
  · rw [hw] at h0; cases h0
  · simpa using h0
theorem ordT_cons {hs : List (Nat × Hint)} {n : Nat} {pre r : List Nat} {i : Nat} (hc : GT4 hs all) (h : ordT hs all (n + 1) pre (i :: r) = true) :
    (i < all.size ∧ (∀ j, waits all i j = true → j ∈ pre) ∧ i ∉ pre) ∧ ordT hs all n (i :: pre) r = true ∧
      (isQ hs all [] i = false → ∀ x ∈ altsOf all i r, isQ hs all [] x = false ∧ (x < all.size ∧ (∀ j, waits all x j = true → j ∈ pre) ∧ x ∉ pre) ∧ ordT hs all n (x :: pre) ((i :: r).erase x) = true) := by
  simp only [ordT, Bool.and_eq_true] at h
  obtain ⟨⟨h1, h2⟩, h3⟩ := h
  refine ⟨fits_ok hc h1, h2, fun hq x hx => ?_⟩
  simp only [Bool.or_eq_true, List.all_eq_true, Bool.and_eq_true, Bool.not_eq_true'] at h3
  rcases h3 with h0 | h0
  · rw [hq] at h0; cases h0
  · obtain ⟨⟨g1, g2⟩, g3⟩ := h0 x hx
    exact ⟨g1, fits_ok hc g2, g3⟩
theorem ordT_notin {hs : List (Nat × Hint)} (hc : GT4 hs all) : ∀ {n : Nat} {r pre : List Nat}, ordT hs all n pre r = true → ∀ x ∈ r, x ∉ pre
  | _, [], _, _, x, hx => by cases hx
  | 0, _ :: _, _, h, _, _ => by cases h
  | n + 1, i :: r, pre, h, x, hx => by
    obtain ⟨⟨_, _, h1⟩, h2, _⟩ := ordT_cons hc h
    rcases List.mem_cons.1 hx with rfl | hx
    · exact h1
    · exact fun hp => ordT_notin hc h2 x hx (List.mem_cons_of_mem _ hp)
theorem ordT_lt {hs : List (Nat × Hint)} (hc : GT4 hs all) : ∀ {n : Nat} {r pre : List Nat}, ordT hs all n pre r = true → ∀ x ∈ r, x < all.size
  | _, [], _, _, x, hx => by cases hx
  | 0, _ :: _, _, h, _, _ => by cases h
  | n + 1, i :: r, pre, h, x, hx => by
    obtain ⟨⟨h1, _, _⟩, h2, _⟩ := ordT_cons hc h
    rcases List.mem_cons.1 hx with rfl | hx
    · exact h1
    · exact ordT_lt hc h2 x hx

/-- The readings that come next are reckoned. -/
theorem absorbT {hs : List (Nat × Hint)} (hc : GT4 hs all) {K : S → Prop} {listed : Array Bool} {s' : S} : ∀ (n : Nat) (rest pre : List Nat) (pd : List (Nat × MV)) (σ : S), vcT P T hs all K n rest pd σ → InvT P T hs all n rest pre pd listed σ s' →
    ∃ n' rest' pre' pd' σ', vcT P T hs all K n' rest' pd' σ' ∧ InvT P T hs all n' rest' pre' pd' listed σ' s' ∧ (rest' = [] ∨ ∃ m c r o, n' = m + 1 ∧ rest' = c :: r ∧ all[c]? = some o ∧ flo hs [] c o = false) := by
  intro n rest
  induction rest generalizing n with
  | nil => intro pre pd σ hv hi; exact ⟨n, [], pre, pd, σ, hv, hi, .inl rfl⟩
  | cons i r ih =>
    intro pre pd σ hv hi
    cases n with
    | zero => exact absurd hi.ordk (by simp [ordT])
    | succ n =>
    obtain ⟨⟨hlt, hpre, hnp⟩, hord, _⟩ := ordT_cons hc hi.ordk
    have ho : all[i]? = some all[i] := Array.getElem?_eq_getElem hlt
    generalize all[i] = o at ho
    cases hfl : flo hs [] i o with
    | false => exact ⟨n + 1, i :: r, pre, pd, σ, hv, hi, .inr ⟨n, i, r, o, rfl, rfl, ho, hfl⟩⟩
    | true =>
      simp only [vcT, opAt_arr, ho, hfl] at hv
      simp only [flo, Bool.and_eq_true, Bool.not_eq_true', List.contains_eq_mem, decide_eq_false_iff_not] at hfl
      have hq := hfl.1
      obtain ⟨v, s1, hl, hev, hk⟩ := vcOps_quiet hq hv
      have hds : o.dst.isSome = true := by simp only [quiet, Bool.and_eq_true] at hq; exact hq.1
      obtain ⟨d, hd⟩ := Option.isSome_iff_exists.1 hds
      have hdi : dstOf all i = some d := by simp [dstOf, ho, hd]
      rw [hd] at hk
      have hk : vcT P T hs all K n r (pd ++ [(i, v)]) (s1.put (some d) v) := hk
      have hnew : ∀ t, look (s1.put (some d) v).env t = if t = d then some v else look σ.env t := fun t => by
        simp only [S.put, look_cons]; rw [hl.env]
      -- what looks at other slots sees the same
      have hsame : ∀ k ok, all[k]? = some ok → (k ∈ pre ∨ k = i) → Same all ok σ (s1.put (some d) v) := fun k ok hok hkp => by
        refine ⟨hl.m.symm, hl.st.symm, fun t ht => ?_⟩
        rw [hnew]
        rw [if_neg]
        rintro rfl
        have hw := hc.look k ok hok t ht i hdi
        rcases hkp with hkp | rfl
        · -- k before i in the order, yet waits for i
          exact hnp (hi.prw k hkp i hw)
        · exact Nat.lt_irrefl _ (hc.below hw).1
      refine ih n (i :: pre) (pd ++ [(i, v)]) (s1.put (some d) v) hk ⟨hord, fun k hk1 j hw => ?_, fun k hk1 hk2 => ?_, fun k hk1 => hi.un k (List.mem_cons_of_mem _ hk1), fun q hq1 => ?_, fun q hq1 hq2 => ?_, hl.m.trans hi.m, hl.n.trans hi.n, hl.st.trans hi.st, fun t ht => ?_⟩
      · rcases List.mem_cons.1 hk1 with rfl | hk1
        · exact List.mem_cons_of_mem _ (hpre j hw)
        · exact List.mem_cons_of_mem _ (hi.prw k hk1 j hw)
      · rcases hi.cov k hk1 hk2 with h | ⟨u, h⟩
        · rcases List.mem_cons.1 h with rfl | h
          · exact .inr ⟨v, List.mem_append.2 (.inr (by simp))⟩
          · exact .inl h
        · exact .inr ⟨u, List.mem_append.2 (.inl h)⟩
      · rcases List.mem_append.1 hq1 with h | h
        · exact List.mem_cons_of_mem _ (hi.pdp q h)
        · simp at h; rw [h]; exact List.mem_cons_self
      · rcases List.mem_append.1 hq1 with h | h
        · obtain ⟨oq, h1, h2, h3, h4⟩ := hi.ev q h hq2
          refine ⟨oq, h1, h2, h3.same h2 (hsame q.1 oq h1 (.inl (hi.pdp q h))), fun d' hd' => ?_⟩
          rw [hnew, if_neg]
          · exact h4 d' hd'
          · rintro rfl
            have hne : q.1 ≠ i := fun e => hnp (e ▸ hi.pdp q h)
            exact hc.uniq q.1 i d' hne (by simp [dstOf, h1, hd']) hdi
        · simp at h
          subst h
          refine ⟨o, ho, hq, hev.same hq (hsame i o ho (.inr rfl)), fun d' hd' => ?_⟩
          rw [hd] at hd'
          obtain rfl := Option.some.inj hd'
          rw [hnew, if_pos rfl]
      · have hti : t ≠ d := fun e => ht (i, v) (List.mem_append.2 (.inr (by simp))) (hi.un i List.mem_cons_self) (by rw [hdi, e])
        rw [hnew, if_neg hti]
        exact hi.env t fun q hq1 hq2 => ht q (List.mem_append.2 (.inl hq1)) hq2

theorem GT4.ready_all {hs : List (Nat × Hint)} {listed : Array Bool} (hc : GT4 hs all) (hsz : listed.size = all.size) (hr : Region.ready .any all listed = []) : ∀ i, i < all.size → listed.getD i true = true := by
  intro i
  induction i using Nat.strongRecOn with
  | _ i ih =>
    intro hi
    cases hl : listed.getD i true with
    | true => rfl
    | false =>
      exfalso
      have : i ∈ Region.ready .any all listed := mem_ready.2 ⟨hl, all[i], Array.getElem?_eq_getElem hi, fun e he hb => by
        have hlt := hc.down i _ (Array.getElem?_eq_getElem hi) e he hb
        have h1 := ih e.on hlt (by omega)
        have : e.on < listed.size := by omega
        simpa [Array.getD_eq_getD_getElem?, Array.getElem?_eq_getElem this] using h1⟩
      rw [hr] at this
      cases this

theorem vcAlts_mem {hs : List (Nat × Hint)} {rec : List Nat → List (Nat × MV) → S → Prop} {l : List Nat} {pd : List (Nat × MV)} {s : S} : ∀ {xs : List Nat}, vcAlts P T hs all rec l pd s xs → ∀ x ∈ xs, (match opAt all.toList x with
    | none => False
    | some o => vcStep P T hs s o fun s' => stays P T hs all (pd.filter fun q => !waits all x q.1) s' ∧ rec (l.erase x) (pd.filter fun q => !waits all x q.1) s')
  | [], _, x, hx => by cases hx
  | y :: ys, h, x, hx => by
    rcases List.mem_cons.1 hx with rfl | hx
    · exact h.1
    · exact vcAlts_mem h.2 x hx

theorem floatT_ok {hs : List (Nat × Hint)} (hgt : GE P w0 wr A) (hT : TOk P T) (hc : GT4 hs all) {K : S → Prop} (hQ : ∀ s a w, Rel w0 wr A s a w → K s → Q .normal a w) :
    ∀ (fuel : Nat) (listed : Array Bool) (nf : Nat) (rest pre : List Nat) (pd : List (Nat × MV)) (σ s' : S) (a : Act) (w : World), listed.size = all.size → cntU (fun i => !listed.getD i true) all.size ≤ fuel →
      vcT P T hs all K nf rest pd σ → InvT P T hs all nf rest pre pd listed σ s' → Rel w0 wr A s' a w → wpAny P .any all Q fuel listed a w := by
  -- all are listed
  have done : ∀ (listed : Array Bool) (nf : Nat) (rest pre : List Nat) (pd : List (Nat × MV)) (σ s' : S) (a : Act) (w : World), (∀ i, i < all.size → listed.getD i true = true) →
      vcT P T hs all K nf rest pd σ → InvT P T hs all nf rest pre pd listed σ s' → Rel w0 wr A s' a w → Q .normal a w := fun listed nf rest pre pd σ s' a w hall hv hi hr => by
    have hrest : rest = [] := by
      cases rest with
      | nil => rfl
      | cons i r =>
        exfalso
        have h1 := hi.un i List.mem_cons_self
        rw [hall i (ordT_lt hc hi.ordk i List.mem_cons_self)] at h1
        cases h1
    subst hrest
    obtain ⟨L, F, hR⟩ := hr
    have hl : Lk σ s' := ⟨hi.m, hi.n, hi.st, fun t => (hi.env t fun q hq hq2 => by
      obtain ⟨o, ho, _⟩ := hi.ev q hq hq2
      rw [hall q.1 (Array.getElem?_eq_some_iff.1 ho).1] at hq2
      cases hq2).symm⟩
    exact hQ σ a w ⟨L, F, hl.rl hR⟩ (by cases nf <;> exact hv)
  intro fuel
  induction fuel with
  | zero =>
    intro listed nf rest pre pd σ s' a w hsz hcnt hv hi hr
    have hz := cntU_zero (Nat.le_zero.1 hcnt)
    have hall : ∀ i, i < all.size → listed.getD i true = true := fun i h => by simpa using hz i h
    refine ⟨List.eq_nil_iff_forall_not_mem.2 fun j hj => ?_, done listed nf rest pre pd σ s' a w hall hv hi hr⟩
    obtain ⟨h0, o, ho, _⟩ := mem_ready.1 hj
    rw [hall j (Array.getElem?_eq_some_iff.1 ho).1] at h0
    cases h0
  | succ fuel ih =>
    intro listed nf rest pre pd σ s' a w hsz hcnt hv hi hr
    obtain ⟨nf, rest, pre, pd, σ, hv, hi, hhead⟩ := absorbT hc nf rest pre pd σ hv hi
    refine ⟨fun hn => done listed nf rest pre pd σ s' a w (hc.ready_all hsz hn) hv hi hr, fun j hj => ?_⟩
    obtain ⟨h0, o, ho, _⟩ := mem_ready.1 hj
    have hjs : j < all.size := (Array.getElem?_eq_some_iff.1 ho).1
    have hw := ready_waits hj
    have hcnt' : cntU (fun i => !(listed.setIfInBounds j true).getD i true) all.size ≤ fuel := by
      have := cntU_set (f := fun i => !listed.getD i true) (g := fun i => !(listed.setIfInBounds j true).getD i true) (i := j) (by simp only [h0]; rfl) (by simp [Array.getD_eq_getD_getElem?, hsz, hjs]) (fun i hi => by
        simp only [getD_set_ne true (Ne.symm hi)]) all.size hjs
      omega
    have hset : ∀ i, (listed.setIfInBounds j true).getD i true = false → i ≠ j ∧ listed.getD i true = false := fun i hi => by
      have hne : i ≠ j := by
        rintro rfl
        simp [Array.getD_eq_getD_getElem?, hsz, hjs] at hi
      exact ⟨hne, by rw [getD_set_ne true (Ne.symm hne)] at hi; exact hi⟩
    -- a slot that is looked at is known
    have known : ∀ t ∈ o.looksAt all, look s'.env t = look σ.env t := fun t ht => hi.env t fun q hq hq2 hd => by
      have h1 := hw q.1 (hc.look j o ho t ht q.1 hd)
      have hlt := dstOf_lt hd
      rw [← getD_ft (by omega)] at h1
      rw [hq2] at h1
      cases h1
    by_cases hjr : j ∈ rest
    · obtain ⟨m, rest', hqc, hpre, hnp, hord, hin, hout2, hv⟩ : ∃ (m : Nat) (rest' : List Nat), flo hs [] j o = false ∧ (∀ i, waits all j i = true → i ∈ pre) ∧ j ∉ pre ∧ ordT hs all m (j :: pre) rest' = true ∧ (∀ i ∈ rest', i ∈ rest) ∧ (∀ i ∈ rest, i = j ∨ i ∈ rest') ∧
          vcStep P T hs σ o (fun s' => stays P T hs all (pd.filter fun q => !waits all j q.1) s' ∧ vcT P T hs all K m rest' (pd.filter fun q => !waits all j q.1) s') := by
        rcases hhead with rfl | ⟨m, c, r, oc, rfl, rfl, hoc, hqc⟩
        · cases hjr
        obtain ⟨⟨hlt, hpre, hnp⟩, hord, halt⟩ := ordT_cons hc hi.ordk
        simp only [vcT, opAt_arr, hoc, hqc] at hv
        by_cases hjc : j = c
        · subst hjc
          obtain rfl : o = oc := by rw [ho] at hoc; exact Option.some.inj hoc
          exact ⟨m, r, hqc, hpre, hnp, hord, fun i h => List.mem_cons_of_mem _ h, fun i h => List.mem_cons.1 h, hv.1⟩
        · have hjr2 : j ∈ r := (List.mem_cons.1 hjr).resolve_left hjc
          have hja : j ∈ altsOf all c r := by
            refine List.mem_filter.2 ⟨hjr2, ?_⟩
            simp only [Bool.not_eq_true', List.any_eq_false]
            intro y hy hwy
            have h1 := hi.un y hy
            have h2 := hw y hwy
            have hlty := hc.below hwy
            rw [← getD_ft (by omega), h1] at h2
            cases h2
          obtain ⟨g1, ⟨g2, g3, g4⟩, g5⟩ := halt (by simp [isQ, hoc, hqc]) j hja
          have hstep := vcAlts_mem hv.2 j hja
          rw [opAt_arr, ho] at hstep
          exact ⟨m, (c :: r).erase j, by simpa [isQ, ho] using g1, g3, g4, g5, fun i h => List.mem_of_mem_erase h, fun i h => by
            by_cases e : i = j
            · exact .inl e
            · exact .inr ((List.mem_erase_of_ne e).2 h), hstep⟩
      have hkind : (quiet (hintOf hs o.dst) o = true ∧ o.guard = none) ∨ chainOp (hintOf hs o.dst) o = true := by
        rcases hc.kind j o ho with h1 | h1
        · simp [flo, h1] at hqc
        · exact .inr h1
      have hg : o.guard = none := by
        rcases hkind with ⟨_, h1⟩ | hch
        · exact h1
        · simp only [chainOp, Bool.and_eq_true, Option.isNone_iff_eq_none] at hch
          exact hch.1
      have hal : Al σ s' o.op.operands.toList := ⟨hi.m, hi.n, hi.st, fun x hx => by
        cases x with
        | tmp t =>
          simp only [evO]
          refine (known t ?_).symm
          simp only [Oper.looksAt, List.mem_append, List.mem_filterMap]
          exact .inl ⟨.tmp t, hx, rfl⟩
        | _ => rfl⟩
      have hok := chain_ok hT hkind hal hv
      unfold Go.wpOp
      rw [ho]
      simp only
      have hwd : Region.wanted o (yielded all a.tmps) = true := by simp [Region.wanted, hg]
      rw [if_pos hwd]
      refine .inl (hok w0 wr A a w Q _ hgt hr fun s2' a' w' hr' hk => ?_)
      obtain ⟨σ', ⟨hst, hv'⟩, htw⟩ := hk
      obtain ⟨e, he, hes, hes2⟩ := htw.env
      have hnk : ∀ t, o.dst ≠ some t → look e t = none := fun t ht => by
        cases hle : look e t with
        | none => rfl
        | some v =>
          exfalso
          have : ∀ (l : List (Nat × MV)) (v : MV), look l t = some v → ∃ q ∈ l, q.1 = t := fun l => by
            induction l with
            | nil => intro v h; cases h
            | cons q l ih =>
              intro v h
              obtain ⟨k, u⟩ := q
              rw [look_cons] at h
              by_cases g : t = k
              · exact ⟨(k, u), List.mem_cons_self, g.symm⟩
              · rw [if_neg g] at h
                obtain ⟨q, h1, h2⟩ := ih v h
                exact ⟨q, List.mem_cons_of_mem _ h1, h2⟩
          obtain ⟨q, h1, h2⟩ := this e v hle
          exact ht (by rw [he q h1, h2])
      refine ih (listed.setIfInBounds j true) m rest' (j :: pre) _ σ' s2' a' w' (by simpa using hsz) hcnt' hv' ⟨hord, fun k hk1 i hwk => ?_, fun i h1 h2 => ?_, fun i h1 => ?_, fun q hq => ?_, fun q hq hq2 => ?_, htw.m, htw.n, htw.st, fun t ht => ?_⟩ hr'
      · rcases List.mem_cons.1 hk1 with rfl | hk1
        · exact List.mem_cons_of_mem _ (hpre i hwk)
        · exact List.mem_cons_of_mem _ (hi.prw k hk1 i hwk)
      · obtain ⟨hne, h3⟩ := hset i h2
        rcases hi.cov i h1 h3 with h | ⟨v, h⟩
        · rcases hout2 i h with e | h
          · exact absurd e hne
          · exact .inl h
        · refine .inr ⟨v, List.mem_filter.2 ⟨h, ?_⟩⟩
          cases hwi : waits all j i with
          | false => simp
          | true =>
            exfalso
            have := hw i hwi
            rw [← getD_ft (by omega), h3] at this
            cases this
      · have hne : j ≠ i := fun e => ordT_notin hc hord i h1 (e ▸ List.mem_cons_self)
        rw [getD_set_ne true hne]
        exact hi.un i (hin i h1)
      · exact List.mem_cons_of_mem _ (hi.pdp q (List.mem_filter.1 hq).1)
      · obtain ⟨hq1, _⟩ := List.mem_filter.1 hq
        obtain ⟨hne, h3⟩ := hset q.1 hq2
        obtain ⟨oq, g1, g2, g3, g4⟩ := hi.ev q hq1 h3
        obtain ⟨oq', g1', g5⟩ := stays_mem hst q hq
        obtain rfl : oq = oq' := by rw [g1] at g1'; exact Option.some.inj g1'
        refine ⟨oq, g1, g2, stay_ev g2 g5, fun d hd => ?_⟩
        rw [hes, look_app, hnk d (fun hod => hc.uniq q.1 j d hne (by simp [dstOf, g1, hd]) (by simp [dstOf, ho, hod]))]
        exact g4 d hd
      · rw [hes, hes2, look_app, look_app]
        by_cases hod : o.dst = some t
        · cases look e t with
          | some v => rfl
          | none =>
            -- then the slot is nobody else's
            refine hi.env t fun q hq1 hq2 hd => ?_
            obtain ⟨oq, g1, _⟩ := hi.ev q hq1 hq2
            exact hc.uniq j q.1 t (fun e => hnp (by rw [e]; exact hi.pdp q hq1)) (by simp [dstOf, ho, hod]) hd
        · rw [hnk t hod]
          refine hi.env t fun q hq1 hq2 hd => ?_
          have hne : q.1 ≠ j := fun e => hnp (by rw [← e]; exact hi.pdp q hq1)
          refine ht q (List.mem_filter.2 ⟨hq1, ?_⟩) (by rw [getD_set_ne true (Ne.symm hne)]; exact hq2) hd
          cases hwi : waits all j q.1 with
          | false => simp
          | true =>
            exfalso
            have := hw q.1 hwi
            have hlt := dstOf_lt hd
            rw [← getD_ft (by omega), hq2] at this
            cases this
    · -- one that reads
      obtain ⟨v, hpd⟩ := (hi.cov j hjs h0).resolve_left hjr
      obtain ⟨oq, g1, g2, g3, g4⟩ := hi.ev (j, v) hpd h0
      obtain rfl : o = oq := by rw [ho] at g1; exact Option.some.inj g1
      have hev := g3.same g2 (s' := s') ⟨hi.m, hi.st, fun t ht => (known t ht).symm⟩
      have hds : o.dst.isSome = true := by simp only [quiet, Bool.and_eq_true] at g2; exact g2.1
      obtain ⟨d, hd⟩ := Option.isSome_iff_exists.1 hds
      refine hev.wpOp hgt hT ho hr fun a' w' hr' => ?_
      rw [hd] at hr'
      have hne' : ∀ i ∈ rest, j ≠ i := fun i h1 e => hjr (e ▸ h1)
      refine ih (listed.setIfInBounds j true) nf rest pre pd σ (s'.put (some d) v) a' w' (by simpa using hsz) hcnt' hv ⟨hi.ordk, hi.prw, fun i h1 h2 => hi.cov i h1 (hset i h2).2, fun i h1 => ?_, hi.pdp, fun q hq hq2 => hi.ev q hq (hset q.1 hq2).2, hi.m, hi.n, hi.st, fun t ht => ?_⟩ hr'
      · rw [getD_set_ne true (hne' i h1)]
        exact hi.un i h1
      · simp only [S.put, look_cons]
        by_cases e : t = d
        · subst e
          rw [if_pos rfl]
          exact (g4 t hd).symm
        · rw [if_neg e]
          refine hi.env t fun q hq1 hq2 hdq => ?_
          by_cases ej : q.1 = j
          · rw [ej] at hdq
            simp [dstOf, ho, hd] at hdq
            exact e hdq.symm
          · exact ht q hq1 (by rw [getD_set_ne true (Ne.symm ej)]; exact hq2) hdq
end

/-- A DRAWN REGION, its orders reckoned. -/
theorem W.drawnT {kk : Nat} {id : Nat} {ops : Array Oper} {s : S} {Q : Exit → S → Prop} (hs : List (Nat × Hint)) (ord : List Nat) (hT : TOk P T) (hm : P.follows .mixedOrders = true) (hc : gchkT hs ops ord = true)
    (hv : vcT P T hs ops (fun s' => Q .normal s') ord.length ord [] s) : W kk P (.region id ops true) s Q := fun w0 wr A a w hkk ⟨L, F, hr⟩ => by
  obtain ⟨hc, hmem, hord⟩ := gchkT_spec hc
  refine wp_region_any hm (floatT_ok hkk.2 hT hc (K := fun s' => Q .normal s') (fun s a w hr hk => ⟨s, hr, hk⟩) ops.size _ _ ord [] [] s s a _ (by simp) ?_ hv ⟨hord, fun k hk => (by cases hk), fun i hi _ => .inl (hmem i hi), fun i hi => ?_, fun q hq => (by cases hq), fun q hq => (by cases hq), rfl, rfl, rfl, fun t _ => rfl⟩ ⟨L, F, hr.drew⟩)
  · have : ∀ (f : Nat → Bool) n, cntU f n ≤ n := fun f n => by
      induction n with
      | zero => exact Nat.le_refl _
      | succ n ih => simp only [cntU]; split <;> omega
    exact this _ _
  · have hlt := ordT_lt hc hord i hi
    simp [Array.getD_eq_getD_getElem?, hlt]
/-- The same, ahead of more code. -/
theorem W.seqT {kk : Nat} {id : Nat} {ops : Array Oper} {c : Code} {s : S} {Q : Exit → S → Prop} (hs : List (Nat × Hint)) (ord : List Nat) (hT : TOk P T) (hm : P.follows .mixedOrders = true) (hc : Chk (gchkT hs ops ord))
    (hv : vcT P T hs ops (fun s' => W kk P c s' Q) ord.length ord [] s) : W kk P (.seq (.region id ops true) c) s Q := by
  refine W.seq fun K hK => ?_
  refine (W.drawnT (Q := fun e s' => match e with
    | .normal => W kk P c s' Q
    | _ => False) hs ord hT hm hc.h hv).mono fun e s' h => ?_
  cases e <;> first | exact hK s' h | exact h.elim
end Mg

/- The abstract state logic, part 39: contracts of functions that make trees, and of functions that write them, out of their bodies. No condition. -/
namespace Mg
open Go Go.RowKit
set_option linter.unusedVariables false

variable {P : Program} {T : Tab}

/-- The blocks at a place of a row of results. -/
def setAt (vs : List MV) (i j : Nat) : Bk := fun b => inC b ((cellsV (vs.getD i .un)).getD j .dead)
def endC : MC → MC → Prop
  | .sc u, .sc v => Side (u = v)
  | .tr true _ _ rows, .fz rows' => Side (rows = rows')
  | .nil, .fz rows' => Side (rows' = [])
  | _, _ => False
def endL : List MC → List MC → Prop
  | [], [] => True
  | c :: cs, d :: ds => endC c d ∧ endL cs ds
  | _, _ => False
def end1 : MV → MV → Prop
  | .one c, .one d => endC c d
  | .agg cs, .agg ds => endL cs ds
  | _, _ => False
def endVs : List MV → List MV → Prop
  | [], [] => True
  | c :: cs, d :: ds => end1 c d ∧ endVs cs ds
  | _, _ => False

theorem endC_ok {st : Sto} {L : Lay} {w : World} {F : FF} {c d : MC} {v : Value} (h : RC st L w F c v) (he : endC c d) : RT w (labc true ⟨fun b => inC b c, v⟩ d) v ∧ ∀ b, inC b c → F.n b ∧ ¬ F.a b := by
  unfold endC at he
  split at he
  · obtain ⟨rfl⟩ := he
    exact ⟨h, fun b hb => hb.elim⟩
  · obtain ⟨rfl⟩ := he
    exact ⟨⟨rfl, h.2.2⟩, fun b hb => (h.2.1 b hb).2 rfl⟩
  · obtain ⟨rfl⟩ := he
    obtain ⟨a, rfl⟩ := h
    exact ⟨⟨rfl, TR.nilz a _ fun _ h => h⟩, fun b hb => hb.elim⟩
  · exact he.elim
theorem endL_get : ∀ {cs ds : List MC}, endL cs ds → cs.length = ds.length ∧ ∀ (j : Nat) (d : MC), ds[j]? = some d → ∃ c, cs[j]? = some c ∧ endC c d
  | [], [], _ => ⟨rfl, fun j d hj => by simp at hj⟩
  | c :: cs, d :: ds, h => by
    obtain ⟨h1, h2⟩ := endL_get h.2
    refine ⟨by simp [h1], fun j x hj => ?_⟩
    cases j with
    | zero => obtain rfl := Option.some.inj hj; exact ⟨c, rfl, h.1⟩
    | succ j => exact h2 j x hj
  | [], _ :: _, h => h.elim
  | _ :: _, [], h => h.elim
theorem endVs_get : ∀ {cs ds : List MV}, endVs cs ds → cs.length = ds.length ∧ ∀ (j : Nat) (d : MV), ds[j]? = some d → ∃ c, cs[j]? = some c ∧ end1 c d
  | [], [], _ => ⟨rfl, fun j d hj => by simp at hj⟩
  | c :: cs, d :: ds, h => by
    obtain ⟨h1, h2⟩ := endVs_get h.2
    refine ⟨by simp [h1], fun j x hj => ?_⟩
    cases j with
    | zero => obtain rfl := Option.some.inj hj; exact ⟨c, rfl, h.1⟩
    | succ j => exact h2 j x hj
  | [], _ :: _, h => h.elim
  | _ :: _, [], h => h.elim

theorem getD_of {α : Type} {l : List α} {i : Nat} {x d : α} (h : l[i]? = some x) : l.getD i d = x := by rw [List.getD_eq_getElem?_getD, h]; rfl

theorem end1_ok {st : Sto} {L : Lay} {w : World} {F : FF} {c d : MV} {v : Value} (h : RV1 st L w F c v) (he : end1 c d) :
    ∃ U : Nat → Value, RT1 w (lab1 true (fun j => ⟨fun b => inC b ((cellsV c).getD j .dead), U j⟩) d) v ∧ ∀ j b, inC b ((cellsV c).getD j .dead) → F.n b ∧ ¬ F.a b := by
  cases c with
  | one c => cases d with
    | one d =>
      obtain ⟨h1, h2⟩ := endC_ok h he
      refine ⟨fun _ => v, h1, fun j b hb => ?_⟩
      cases j with
      | zero => exact h2 b hb
      | succ j => exact (by simp [cellsV, inC] at hb : False).elim
    | _ => exact he.elim
  | agg cs => cases d with
    | agg ds =>
      obtain ⟨arr, rfl, h1, h2⟩ := h
      obtain ⟨h3, h4⟩ := endL_get he
      refine ⟨fun j => arr.getD j undef, ⟨arr, rfl, by rw [labRow_len, h1, h3], fun j c hj => ?_⟩, fun j b hb => ?_⟩
      · rw [labRow_get] at hj
        obtain ⟨d, hd, rfl⟩ := Option.map_eq_some_iff.1 hj
        obtain ⟨c, hc, hcd⟩ := h4 j d hd
        obtain ⟨u, hu, hr⟩ := h2 j c hc
        refine ⟨u, hu, ?_⟩
        have e1 : arr.getD (0 + j) undef = u := by rw [Nat.zero_add, Array.getD_eq_getD_getElem?, hu]; rfl
        have e2 : (cellsV (.agg cs)).getD (0 + j) .dead = c := by rw [Nat.zero_add]; exact getD_of hc
        show RT w (labc true ⟨fun b => inC b ((cellsV (.agg cs)).getD (0 + j) .dead), arr.getD (0 + j) undef⟩ d) u
        rw [e1, e2]
        exact (endC_ok hr hcd).1
      · cases hc : cs[j]? with
        | none =>
          have : (cellsV (.agg cs)).getD j .dead = .dead := by show cs.getD j .dead = _; rw [List.getD_eq_getElem?_getD, hc]; rfl
          rw [this] at hb; exact hb.elim
        | some c =>
          have : (cellsV (.agg cs)).getD j .dead = c := getD_of hc
          rw [this] at hb
          have hlt := (List.getElem?_eq_some_iff.1 hc).1
          obtain ⟨c', hc', hcd⟩ := h4 j ds[j] (List.getElem?_eq_getElem (by omega))
          rw [hc] at hc'
          obtain rfl := Option.some.inj hc'
          obtain ⟨u, hu, hr⟩ := h2 j c hc
          exact (endC_ok hr hcd).2 b hb
    | _ => exact he.elim
  | un => exact he.elim
  | tup _ => exact he.elim

/-- The end of a function that makes trees. -/
def endTF (T : Tab) (fn : Func) (r : MV) (s : S) : Prop :=
  match resL T s fn.results.toList with
  | some (p, [v]) => match v with
    | .one (.ref id off len) => match look s.st id, r with
      | some (.arr rows), .one (.fz rows') => Side p ∧ Chk (Nat.beq off 0) ∧ ∃ B, Side (len = rows'.length ∧ rows = labR true B 0 rows') ∧ Side (Apart B) ∧ Side (AllF rows')
      | _, _ => False
    | v => Side p ∧ end1 v r ∧ Side (Apart fun i j => ⟨setAt [v] i j, undef⟩)
  | some (p, vs) => match r with
    | .tup xs => Side p ∧ endVs vs xs ∧ Side (Apart fun i j => ⟨setAt vs i j, undef⟩)
    | _ => False
  | none => False
def endTE (T : Tab) (fn : Func) (r : MV) : Exit → S → Prop
  | .normal, s => endTF T fn r s
  | .ret, s => endTF T fn r s
  | _, _ => False

theorem results_run {fn : Func} {tmps : Array Value} {w' : World} {us : List Value} (hu : (fn.results.toList.mapM (resS tmps)).run P w' = .ok us w') : (results fn tmps).run P w' = .ok (if h : us.toArray.size = 1 then us.toArray[0] else .tuple us.toArray) w' := by
  rw [results_list]
  have : ∀ arr : Array ResultVar, arr.mapM (resS tmps) = List.toArray <$> arr.toList.mapM (resS tmps) := fun arr => by
    cases arr; exact List.mapM_toArray
  rw [Sem.run_bind, this, Sem.run_map, hu]
  rfl

/-- A list in a block of its own, whose rows read as trees, is a tree. -/
theorem tree_of {w0 : World} {wr : Wr} {A : Nat → Prop} {L : Lay} {F : FF} {s : S} {a : Act} {w : World} (h : Rl w0 wr A L F s a w) {id len : Nat} {rows : List (List MC)} {B : Nat → Nat → Tk} {v : Value}
    (hv : RC (look s.st) L w F (.ref id 0 len) v) (hid : look s.st id = some (.arr (labR true B 0 rows))) (hlen : len = rows.length) (hap : Apart B) (hall : AllF rows) :
    ∃ N : Bk, TR w (.fz rows) v N ∧ (∀ b, N b → ¬ F.a b ∧ b < w.heap.size ∧ (w0.heap.size ≤ b ∨ wr b ∨ wr.o b)) ∧ ((rows = [] ∧ ∀ b, ¬ N b) ∨ ∃ b s', L id = some (b, s') ∧ ∀ x, N x ↔ x = b ∨ ∃ i j r c, rows[i]? = some r ∧ r[j]? = some c ∧ inC x (labc true (B i j) c)) := by
  subst hlen
  obtain ⟨a', cap, rfl, hle, hx⟩ := hv.2 _ hid
  have hll : (labR true B 0 rows).length = rows.length := labR_len _ _ _ _
  rcases hx with ⟨b, st, hL, rfl, hcap, hne, hcs⟩ | ⟨h0, rfl⟩
  · rcases h.ob id _ hid with ⟨hnil, _⟩ | ⟨b', st', hL', hf, hs, hw⟩
    · exact absurd hnil hne
    · rw [hL] at hL'
      obtain ⟨rfl, rfl⟩ := Prod.mk.inj (Option.some.inj hL')
      have hown := h.own id b st (by rw [hid]; rfl) hL
      have hrow : ∀ i r, rows[i]? = some r → (labR true B 0 rows)[i]? = some (labRow true (B i) 0 r) := fun i r hi => by rw [labR_get, hi, Nat.zero_add]; rfl
      have hcell : ∀ i r j c, rows[i]? = some r → r[j]? = some c → ∃ u, w.cell? ⟨b, i * st + j, none⟩ = some u ∧ RC (look s.st) L w F (labc true (B i j) c) u := fun i r j c hi hj =>
        hw i _ (hrow i r hi) j _ (by rw [labRow_get, hj, Nat.zero_add]; rfl)
      have hsub : ∀ i r j c x, rows[i]? = some r → r[j]? = some c → inC x (labc true (B i j) c) → F.n x ∧ ¬ F.a x := fun i r j c x hi hj hx => by
        obtain ⟨u, _, hr⟩ := hcell i r j c hi hj
        have hfz := hall r (List.mem_of_getElem? hi) c (List.mem_of_getElem? hj)
        cases c <;> first | (cases hfz; done) | exact hx.elim | exact (hr.2.1 x hx).2 rfl
      refine ⟨fun x => x = b ∨ ∃ i j r c, rows[i]? = some r ∧ r[j]? = some c ∧ inC x (labc true (B i j) c), ?_, ?_, .inr ⟨b, st, hL, fun x => Iff.rfl⟩⟩
      · rw [Nat.zero_mul]
        refine .fz rows b cap st (fun i j => (w.cell? ⟨b, i * st + j, none⟩).getD undef) (fun i j x => ∃ r c, rows[i]? = some r ∧ r[j]? = some c ∧ inC x (labc true (B i j) c)) _ (fun e => hne (by subst e; rfl)) hf (fun r hr => ?_) hcap (fun j hj => hcs j (by simpa using hj)) hown.2.1
          (fun i j r c hi hj => ?_) (fun i j r c hi hj => ?_) (fun i j i' j' x ⟨r, c, h1, h2, h3⟩ ⟨r', c', h4, h5, h6⟩ => ?_) (fun i j ⟨r, c, h1, h2, h3⟩ => ?_) (fun x => ⟨?_, ?_⟩) (fun i j x ⟨r, c, h1, h2, _⟩ => ⟨r, c, h1, h2⟩)
        · obtain ⟨i, hi⟩ := List.getElem?_of_mem hr
          have := hs _ (List.mem_of_getElem? (hrow i r hi))
          rwa [labRow_len] at this
        · obtain ⟨u, hu, _⟩ := hcell i r j c hi hj
          simp [hu]
        · obtain ⟨u, hu, hr⟩ := hcell i r j c hi hj
          have hfz := hall r (List.mem_of_getElem? hi) c (List.mem_of_getElem? hj)
          simp only [hu, Option.getD_some]
          cases c <;> first | (cases hfz; done) | skip
          · obtain ⟨rfl, h1⟩ := hr
            exact .sc _ _ h1 fun x ⟨r', c', h1, h2, h3⟩ => by
              rw [hi] at h1; obtain rfl := Option.some.inj h1
              rw [hj] at h2; obtain rfl := Option.some.inj h2
              exact h3
          · obtain ⟨rfl, _, h1⟩ := hr
            have : (fun x => ∃ r' c', rows[i]? = some r' ∧ r'[j]? = some c' ∧ inC x (labc true (B i j) c')) = (B i j).B := by
              funext x
              refine propext ⟨fun ⟨r', c', h1, h2, h3⟩ => ?_, fun hx => ⟨r, _, hi, hj, hx⟩⟩
              rw [hi] at h1; obtain rfl := Option.some.inj h1
              rw [hj] at h2; obtain rfl := Option.some.inj h2
              exact h3
            rw [this]; exact h1
        · have hB : ∀ {i j c x}, inC x (labc true (B i j) c) → c.frz = true → (B i j).B x := fun {i j c x} h hf => by
            cases c <;> first | (cases hf; done) | exact h.elim | exact h
          exact hap i j i' j' x (hB h3 (hall r (List.mem_of_getElem? h1) c (List.mem_of_getElem? h2))) (hB h6 (hall r' (List.mem_of_getElem? h4) c' (List.mem_of_getElem? h5)))
        · exact hown.1 (.inl (hsub i r j c b h1 h2 h3).1)
        · rintro (rfl | ⟨i, j, r, c, h1, h2, h3⟩)
          · exact .inl rfl
          · exact .inr ⟨i, j, r, c, h1, h2, h3⟩
        · rintro (rfl | ⟨i, j, r, c, h1, h2, h3⟩)
          · exact .inl rfl
          · exact .inr ⟨i, j, r, c, h1, h2, h3⟩
      · rintro x (rfl | ⟨i, j, r, c, h1, h2, h3⟩)
        · exact ⟨fun hf => hown.1 (.inr hf), hown.2.1, hown.2.2.imp (fun h => h) .inl⟩
        · obtain ⟨g1, g2⟩ := hsub i r j c x h1 h2 h3
          exact ⟨g2, h.fsz x (.inl g1), h.fn x g1⟩
  · have : rows = [] := List.eq_nil_of_length_eq_zero h0
    subst this
    exact ⟨fun _ => False, .nilz _ _ fun _ h => h, fun b hb => hb.elim, .inl ⟨rfl, fun _ h => h⟩⟩

theorem endT_ok {w : World} {A : Nat → Prop} {L : Lay} {F : FF} {s : S} {a : Act} {w' : World} (hT : TOk P T) (h : Rl w ⟨fun _ => False, 0, fun _ => none, fun _ => False⟩ A L F s a w') {fn : Func} {r : MV} (he : endTF T fn r s) :
    ∃ v, (results fn a.tmps).run P w' = .ok v w' ∧ ∃ B : Nat → Nat → Tk, Below w.heap.size w w' ∧ RTV w' (lab true B r) v ∧ Apart B ∧ ∀ b, Any B b → w.heap.size ≤ b ∧ b < w'.heap.size := by
  have hbel : Below w.heap.size w w' := ⟨h.os, h.tape, h.output, h.size, fun k hk => h.keep k hk (fun x => x)⟩
  have hnew : ∀ b, F.n b ∧ ¬ F.a b → w.heap.size ≤ b ∧ b < w'.heap.size := fun b hb => ⟨(h.fn b hb.1).resolve_right (fun x => x.elim (fun h => h) (fun h => h)), h.fsz b (.inl hb.1)⟩
  unfold endTF at he
  split at he
  · rename_i p1 v1 hres
    have one : ∀ hp : p1, ∃ u, (fn.results.toList.mapM (resS a.tmps)).run P w' = .ok [u] w' ∧ RV (look s.st) L w' F v1 u := fun hp => by
      obtain ⟨us, hus, hlen, hr⟩ := resL_ok hT h hres hp
      obtain ⟨u, hu, hru⟩ := hr 0 v1 rfl
      have hus1 : us = [u] := by
        cases us with
        | nil => simp at hlen
        | cons x t =>
          obtain rfl : x = u := by simpa using hu
          have : t = [] := List.eq_nil_of_length_eq_zero (by simpa using hlen)
          rw [this]
      exact ⟨u, hus1 ▸ hus, hru⟩
    split at he
    · rename_i id off len
      split at he
      · rename_i rows rows' hid
        obtain ⟨⟨hp⟩, ⟨hoff⟩, B, ⟨hl, rfl⟩, ⟨hap⟩, ⟨hall⟩⟩ := he
        obtain rfl : off = 0 := Nat.eq_of_beq_eq_true hoff
        obtain ⟨u, hus, hru⟩ := one hp
        obtain ⟨N, hN, hNn, _⟩ := tree_of h hru hid hl hap hall
        refine ⟨u, by simpa using results_run hus, fun i j => match i, j with | 0, 0 => ⟨N, u⟩ | _, _ => ⟨fun _ => False, undef⟩, hbel, ⟨rfl, hN⟩, ?_, ?_⟩
        · intro i j i' j' x h1 h2
          cases i <;> cases j <;> cases i' <;> cases j' <;> first | exact ⟨rfl, rfl⟩ | exact h1.elim | exact h2.elim
        · rintro b ⟨i, j, hb⟩
          cases i <;> cases j <;> first | exact hb.elim | skip
          obtain ⟨_, g2, g3⟩ := hNn b hb
          exact ⟨g3.resolve_right (fun x => x.elim (fun h => h) (fun h => h)), g2⟩
      · exact he.elim
    · obtain ⟨⟨hp⟩, he1, ⟨hap⟩⟩ := he
      obtain ⟨u, hus, hru⟩ := one hp
      have hru1 : RV1 (look s.st) L w' F v1 u := by cases v1 <;> first | exact hru | exact he1.elim
      obtain ⟨U, h1, h2⟩ := end1_ok hru1 he1
      refine ⟨u, by simpa using results_run hus, fun i j => match i with | 0 => ⟨setAt [v1] 0 j, U j⟩ | _ + 1 => ⟨fun _ => False, undef⟩, hbel, ?_, ?_, ?_⟩
      · cases r <;> first | exact h1 | (cases v1 <;> exact he1.elim)
      · intro i j i' j' x g1 g2
        cases i <;> cases i' <;> first | exact g1.elim | exact g2.elim | skip
        exact hap 0 j 0 j' x g1 g2
      · rintro b ⟨i, j, hb⟩
        cases i <;> first | exact hb.elim | skip
        exact hnew b (h2 j b hb)
  · rename_i p1 vs hne hres
    split at he
    · rename_i xs
      obtain ⟨⟨hp⟩, he1, ⟨hap⟩⟩ := he
      obtain ⟨us, hus, hlen, hr⟩ := resL_ok hT h hres hp
      have hone : us.toArray.size ≠ 1 := fun e => by
        have : vs.length = 1 := by rw [← hlen]; simpa using e
        obtain ⟨v, rfl⟩ := List.length_eq_one_iff.1 this
        exact hne v rfl
      obtain ⟨h3, h4⟩ := endVs_get he1
      have key : ∀ i, ∃ U : Nat → Value, ∀ d, xs[i]? = some d → ∃ u, us[i]? = some u ∧ RT1 w' (lab1 true (fun j => ⟨setAt vs i j, U j⟩) d) u ∧ ∀ j b, setAt vs i j b → F.n b ∧ ¬ F.a b := fun i => by
        cases hd : xs[i]? with
        | none => exact ⟨fun _ => undef, fun d h => by cases h⟩
        | some d =>
          obtain ⟨c, hc, hcd⟩ := h4 i d hd
          obtain ⟨u, hu, hru⟩ := hr i c hc
          have hru1 : RV1 (look s.st) L w' F c u := by cases c <;> first | exact hru | exact hcd.elim
          obtain ⟨U, g1, g2⟩ := end1_ok hru1 hcd
          have e : vs.getD i .un = c := getD_of hc
          refine ⟨U, fun d' hd' => ?_⟩
          obtain rfl := Option.some.inj hd'
          refine ⟨u, hu, ?_, ?_⟩
          · unfold setAt; rw [e]; exact g1
          · intro j b hb; unfold setAt at hb; rw [e] at hb; exact g2 j b hb
      let U : Nat → Nat → Value := fun i => Classical.choose (key i)
      have hU := fun i => Classical.choose_spec (key i)
      refine ⟨.tuple us.toArray, by have := results_run hus; rwa [dif_neg hone] at this, fun i j => ⟨setAt vs i j, U i j⟩, hbel, ⟨us.toArray, rfl, ?_, fun i x hx => ?_⟩, hap, ?_⟩
      · rw [labT_len]; simp only [List.size_toArray]; omega
      · rw [labT_get] at hx
        obtain ⟨d, hd, rfl⟩ := Option.map_eq_some_iff.1 hx
        obtain ⟨u, g1, g2, _⟩ := hU i d hd
        exact ⟨u, by simpa using g1, by rw [Nat.zero_add]; exact g2⟩
      · rintro b ⟨i, j, hb⟩
        cases hd : xs[i]? with
        | none =>
          have hv : vs[i]? = none := List.getElem?_eq_none (by have := List.getElem?_eq_none_iff.1 hd; omega)
          have : vs.getD i .un = .un := by rw [List.getD_eq_getElem?_getD, hv]; rfl
          have hb : setAt vs i j b := hb
          unfold setAt at hb
          rw [this] at hb
          exact (by simp [cellsV, inC] at hb : False).elim
        | some d =>
          obtain ⟨u, _, _, g3⟩ := hU i d hd
          exact hnew b (g3 j b hb)
    · exact he.elim
  · exact he.elim

/-- A CONTRACT of a function that makes trees, out of its reckoning. -/
theorem TPure.vc {f : Nat} {fn : Func} {c : Code} {args : List MV} {r : MV} (hs : List (Nat × Hint)) (hT : TOk P T) (hm : P.follows .mixedOrders = true) (hf : P.funcs[f]? = some fn) (hn : (fn.name == "runtime.NumGoroutine") = false) (hb : fn.body = some c) (hl : Nat.ble args.length fn.ntmps = true)
    (h : fS (S.start fn.ntmps args) fun s => Mg.vc 0 P T c hs s (endTE T fn r)) : TPure P f args r := by
  rw [fS_eq] at h
  refine ⟨⟨fn, hf, hn, by rw [hb]; rfl⟩, ?_⟩
  intro w A vals hsz hv hA hgt
  refine calls_of_wp hf hb (wp_mono (vc_ok hT hm _ _ _ h w ⟨fun _ => False, 0, fun _ => none, fun _ => False⟩ A _ w ⟨rfl, hgt, fun _ h => h.elim⟩ (start_rel hsz (Nat.le_of_ble_eq_true hl) hv hA)) fun e a w' ⟨s, ⟨L, F, hr⟩, he⟩ => ?_)
  have key : endTF T fn r s → a.defers = [] ∧ ∃ v, (results fn a.tmps).run P w' = .ok v w' ∧ ∃ (v' : Value) (B : Nat → Nat → Tk), Ending.returned v = .returned v' ∧ Below w.heap.size w w' ∧ RTV w' (lab true B r) v' ∧ Apart B ∧ ∀ b, Any B b → w.heap.size ≤ b ∧ b < w'.heap.size := fun he => by
    obtain ⟨v, h1, B, h2, h3, h4, h5⟩ := endT_ok hT hr he
    exact ⟨hr.df, v, h1, v, B, rfl, h2, h3, h4, h5⟩
  cases e <;> first | exact key he | exact he.elim

/- ------------------------------------------------ laws: the arguments' slices, told with their blocks -/
def envT (A : Bk) (U : Nat → Nat → Value) : Nat → List MV → List (Nat × MV)
  | _, [] => []
  | k, x :: xs => (k, lab1 false (fun j => ⟨A, U k j⟩) x) :: envT A U (k + 1) xs
theorem look_envT (A : Bk) (U : Nat → Nat → Value) : ∀ (xs : List MV) (k j : Nat), look (envT A U k xs) j = if k ≤ j then (xs[j - k]?).map (lab1 false fun i => ⟨A, U j i⟩) else none
  | [], k, j => by simp [envT]
  | x :: xs, k, j => by
    simp only [envT, look_cons]
    by_cases e : j = k
    · subst e; simp
    · rw [if_neg e, look_envT A U xs (k + 1) j]
      by_cases h : k ≤ j
      · rw [if_pos (by omega), if_pos h, show j - k = (j - (k + 1)) + 1 by omega]; rfl
      · rw [if_neg (by omega), if_neg h]
def S.startT (A : Bk) (U : Nat → Nat → Value) (m : Nat) (args : List MV) : S := ⟨m, 0, envT A U 0 args, []⟩

theorem FV.rt {w : World} {A : Nat → Prop} {x : MV} {v : Value} (h : FV w A x v) : ∃ U : Nat → Value, RT1 w (lab1 false (fun j => ⟨A, U j⟩) x) v := by
  cases x with
  | one c => exact ⟨fun _ => v, RF.rt h⟩
  | agg cs =>
    obtain ⟨arr, rfl, h1, h2⟩ := h
    refine ⟨fun j => arr.getD j undef, arr, rfl, by rw [labRow_len, h1], fun j c hj => ?_⟩
    rw [labRow_get] at hj
    obtain ⟨d, hd, rfl⟩ := Option.map_eq_some_iff.1 hj
    obtain ⟨u, hu, hr⟩ := h2 j d hd
    have e1 : arr.getD (0 + j) undef = u := by rw [Nat.zero_add, Array.getD_eq_getD_getElem?, hu]; rfl
    exact ⟨u, hu, by show RT w (labc false ⟨A, arr.getD (0 + j) undef⟩ d) u; rw [e1]; exact hr.rt⟩
  | un => exact h.elim
  | tup _ => exact h.elim
theorem RT1.rva {w : World} {st : Sto} {L : Lay} {A : Nat → Prop} {o : Nat → Value} {x : MV} {v : Value} (hp : plain1 x = true) (h : RT1 w (lab1 false (fun j => ⟨A, o j⟩) x) v) : RV1 st L w ⟨fun _ => False, A⟩ (lab1 false (fun j => ⟨A, o j⟩) x) v := by
  have hc : ∀ {c : MC} {u u' : Value}, plainC c = true → RT w (labc false ⟨A, u'⟩ c) u → RC st L w ⟨fun _ => False, A⟩ (labc false ⟨A, u'⟩ c) u := fun {c u u'} hp h => by
    cases c <;> first | exact h.elim | exact h | (cases hp; done) | exact ⟨h.1, fun b hb => ⟨.inr hb, fun ho => by cases ho⟩, h.2⟩
  cases x with
  | one c => exact hc hp h
  | agg cs =>
    obtain ⟨arr, rfl, h1, h2⟩ := h
    refine ⟨arr, rfl, h1, fun j c hj => ?_⟩
    obtain ⟨u, hu, hr⟩ := h2 j c hj
    refine ⟨u, hu, ?_⟩
    rw [labRow_get] at hj
    obtain ⟨d, hd, rfl⟩ := Option.map_eq_some_iff.1 hj
    exact hc (List.all_eq_true.1 hp d (List.mem_of_getElem? hd)) hr
  | un => exact h.elim
  | tup _ => exact h.elim

/-- A LAW, its arguments told with their blocks, out of its reckoning. -/
theorem Law.vc {f : Nat} {fn : Func} {c : Code} {args : List MV} {r : MV} (hs : List (Nat × Hint)) (hT : TOk P T) (hm : P.follows .mixedOrders = true) (hf : P.funcs[f]? = some fn) (hn : (fn.name == "runtime.NumGoroutine") = false) (hb : fn.body = some c) (hl : Nat.ble args.length fn.ntmps = true) (hpl : args.all plain1 = true)
    (h : ∀ A U, fS (S.startT A U fn.ntmps args) fun s => Mg.vc 0 P T c hs s (endE T false fn r)) : Pure P false f args r := by
  refine ⟨⟨fn, hf, hn, by rw [hb]; rfl⟩, ?_⟩
  intro w A vals hsz hv hA hgt
  have hU : ∀ i : Nat, ∃ U : Nat → Value, ∀ x, args[i]? = some x → ∃ v, vals[i]? = some v ∧ RT1 w (lab1 false (fun j => ⟨A, U j⟩) x) v := fun i => by
    cases hx : args[i]? with
    | none => exact ⟨fun _ => undef, fun x h => by cases h⟩
    | some x =>
      obtain ⟨v, h1, h2⟩ := hv i x hx
      obtain ⟨U, h3⟩ := h2.rt
      exact ⟨U, fun y hy => by obtain rfl := Option.some.inj hy; exact ⟨v, h1, h3⟩⟩
  let U : Nat → Nat → Value := fun i => Classical.choose (hU i)
  have hUs := fun i => Classical.choose_spec (hU i)
  have hlen : args.length ≤ fn.ntmps := Nat.le_of_ble_eq_true hl
  have hstart : Rel w ⟨fun _ => False, 0, fun _ => none, fun _ => False⟩ A (S.startT A U fn.ntmps args) { tmps := vals ++ Array.replicate (fn.ntmps - vals.size) undef, defers := [] } w := by
    have hlk : ∀ t v, look (S.startT A U fn.ntmps args).env t = some v → ∃ x, args[t]? = some x ∧ v = lab1 false (fun j => ⟨A, U t j⟩) x := fun t v ht => by
      have ht : look (envT A U 0 args) t = some v := ht
      rw [look_envT, if_pos (Nat.zero_le _), Nat.sub_zero] at ht
      obtain ⟨x, hx, rfl⟩ := Option.map_eq_some_iff.1 ht
      exact ⟨x, hx, rfl⟩
    have hread : ∀ t v, look (S.startT A U fn.ntmps args).env t = some v → ∃ u, vals[t]? = some u ∧ RV1 (look []) (fun _ => none) w ⟨fun _ => False, A⟩ v u ∧ v.bd 0 := fun t v ht => by
      obtain ⟨x, hx, rfl⟩ := hlk t v ht
      obtain ⟨u, hu, hr⟩ := hUs t x hx
      refine ⟨u, hu, hr.rva (List.all_eq_true.1 hpl x (List.mem_of_getElem? hx)), ?_⟩
      have := hr.bd (n := 0)
      cases x <;> first | exact this | exact hr.elim
    refine ⟨fun _ => none, ⟨fun _ => False, A⟩, rfl, rfl, rfl, Nat.le_refl _, fun _ _ _ => rfl, fun _ _ _ h => h, fun i hi => absurd hi (Nat.not_lt_zero i), rfl, fun b hb => hb.elim, ?_, ?_, ?_, ?_, ?_, ?_, ?_, ?_, rfl⟩
    · rintro b (hb | hb)
      · exact hb.elim
      · exact hA b hb
    · intro id o ho; simp [S.startT] at ho
    · intro id b t h1; simp [S.startT] at h1
    · intro i j b t u h1; simp [S.startT] at h1
    · simp [S.startT]; omega
    · intro t v ht
      obtain ⟨u, hu, hr, _⟩ := hread t v ht
      have hlt : t < vals.size := (Array.getElem?_eq_some_iff.1 hu).1
      have e : (vals ++ Array.replicate (fn.ntmps - vals.size) undef).getD t undef = u := by
        simp [Array.getElem?_append_left hlt, hu]
      show RV _ _ _ _ _ ((vals ++ Array.replicate (fn.ntmps - vals.size) undef).getD t undef)
      rw [e]
      cases v <;> first | exact hr | exact hr.elim
    · intro id o ho; simp [S.startT] at ho
    · intro t v ht
      obtain ⟨u, _, _, hb⟩ := hread t v ht
      exact hb
  have h := h A U
  rw [fS_eq] at h
  refine calls_of_wp hf hb (wp_mono (vc_ok hT hm _ _ _ h w ⟨fun _ => False, 0, fun _ => none, fun _ => False⟩ A _ w ⟨rfl, hgt, fun _ h => h.elim⟩ hstart) fun e a w' ⟨s, ⟨L, F, hr⟩, he⟩ => ?_)
  have key : endF T false fn r s → a.defers = [] ∧ ∃ v, (results fn a.tmps).run P w' = .ok v w' ∧ ∃ (v' : Value) (F : Nat → Prop) (bs : List Nat), Ending.returned v = .returned v' ∧ Below w.heap.size w w' ∧
      (∀ b, F b → b < w'.heap.size ∧ (w.heap.size ≤ b ∨ (false = true ∧ A b))) ∧ OV w' F r v' bs ∧ bs.Nodup ∧ ∀ b ∈ bs, w.heap.size ≤ b ∧ b < w'.heap.size ∧ ¬ F b := fun he => by
    obtain ⟨v, hres, G, bs, h1, h2, h3, h4, h5⟩ := ends_ok hT hr hA (endF_ok he)
    exact ⟨hr.df, v, hres, v, G, bs, rfl, h1, h2, h3, h4, h5⟩
  cases e <;> first | exact key he | exact he.elim

end Mg
