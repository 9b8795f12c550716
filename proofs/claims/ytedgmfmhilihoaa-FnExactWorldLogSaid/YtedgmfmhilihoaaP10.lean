/- Parts of the abstract state logic and of the walks, one behind the other: Mg19, Mg30. No condition. -/
import Derived.Test.YtedgmfmhilihoaaP9
/- The abstract state logic, part 19: drawn regions. No condition. -/
namespace Mg
open Go Go.RowKit
set_option linter.unusedVariables false

variable {P : Program} {T : Tab}

def cntU (f : Nat → Bool) : Nat → Nat
  | 0 => 0
  | k + 1 => cntU f k + (if f k = true then 1 else 0)
theorem cntU_zero {f : Nat → Bool} : ∀ {n : Nat}, cntU f n = 0 → ∀ i, i < n → f i = false
  | 0, _, i, hi => by omega
  | n + 1, h, i, hi => by
    simp only [cntU] at h
    by_cases hn : i = n
    · subst hn
      cases hf : f i
      · rfl
      · rw [hf] at h; simp at h
    · exact cntU_zero (n := n) (by omega) i (by omega)
theorem cntU_set {f g : Nat → Bool} {i : Nat} (hi : f i = true) (hg : g i = false) (h : ∀ j, j ≠ i → g j = f j) : ∀ n, i < n → cntU g n + 1 = cntU f n
  | 0, hn => by omega
  | n + 1, hn => by
    simp only [cntU]
    by_cases he : i = n
    · subst he
      have : ∀ m, m ≤ i → cntU g m = cntU f m := fun m => by
        induction m with
        | zero => intro _; rfl
        | succ m ih => intro hm; simp only [cntU]; rw [ih (by omega), h m (by omega)]
      rw [this i (Nat.le_refl _), hi, hg]; simp
    · have := cntU_set hi hg h n (by omega)
      rw [h n (fun e => he e.symm)]; omega

theorem cntU_ge {f : Nat → Bool} {h : Nat} : ∀ {n : Nat}, (∀ i, h ≤ i → i < n → f i = true) → n - h ≤ cntU f n
  | 0, _ => by omega
  | n + 1, hf => by
    have ih := cntU_ge (f := f) (h := h) (n := n) fun i h1 h2 => hf i h1 (by omega)
    simp only [cntU]
    by_cases g : h ≤ n
    · rw [hf n g (by omega)]; simp; omega
    · omega

/-- i waits for j. -/
def waits (ops : Array Oper) (i j : Nat) : Bool := match ops[i]? with
  | some o => o.after.toList.any fun e => Region.binds .any e && e.on == j
  | none => false
theorem waits_spec {ops : Array Oper} {i j : Nat} {o : Oper} (ho : ops[i]? = some o) (h : waits ops i j = true) : ∃ e ∈ o.after, Region.binds .any e = true ∧ e.on = j := by
  simp only [waits, ho, List.any_eq_true, Bool.and_eq_true, beq_iff_eq] at h
  obtain ⟨e, he, h1, h2⟩ := h
  exact ⟨e, by simpa using he, h1, h2⟩

def dstOf (ops : Array Oper) (i : Nat) : Option Nat := (ops[i]?).bind (·.dst)

/-- May the region's first h operations come in any order that its edges allow, the rest in its own order? -/
def dchk (hs : List (Nat × Hint)) (ops : Array Oper) (h : Nat) : Bool :=
  Nat.ble h ops.size &&
  ((ops.toList.take h).all fun o => quiet (hintOf hs o.dst) o) &&
  ((List.range ops.size).all fun i => (ops[i]?).any fun o => o.after.all fun e => !Region.binds .any e || Nat.blt e.on i) &&
  ((List.range h).all fun i => (List.range i).all fun j => dstOf ops i != dstOf ops j) &&
  ((List.range h).all fun i => (ops[i]?).any fun o => (o.looksAt ops).all fun t => (List.range h).all fun j => dstOf ops j != some t || (Nat.blt j i && waits ops i j)) &&
  (Nat.beq h ops.size || ((List.range h).all fun k => (List.range (h + 1)).any fun m => Nat.blt k m && waits ops m k)) &&
  ((List.range ops.size).all fun k => Nat.blt k (h + 1) || waits ops k (k - 1))

structure DChk (hs : List (Nat × Hint)) (ops : Array Oper) (h : Nat) : Prop where
  le : h ≤ ops.size
  quiet : ∀ i o, i < h → ops[i]? = some o → quiet (hintOf hs o.dst) o = true
  down : ∀ i o, ops[i]? = some o → ∀ e ∈ o.after, Region.binds .any e = true → e.on < i
  uniq : ∀ i j, i < h → j < i → dstOf ops i ≠ dstOf ops j
  look : ∀ i o, i < h → ops[i]? = some o → ∀ t ∈ o.looksAt ops, ∀ j, j < h → dstOf ops j = some t → j < i ∧ waits ops i j = true
  head : h < ops.size → ∀ k, k < h → ∃ m, m ≤ h ∧ k < m ∧ waits ops m k = true
  tail : ∀ k, h < k → k < ops.size → waits ops k (k - 1) = true

theorem dchk_spec {hs : List (Nat × Hint)} {ops : Array Oper} {h : Nat} (hc : dchk hs ops h = true) : DChk hs ops h := by
  simp only [dchk, Bool.and_eq_true] at hc
  obtain ⟨⟨⟨⟨⟨⟨c1, c2⟩, c3⟩, c4⟩, c5⟩, c6⟩, c7⟩ := hc
  simp only [List.all_eq_true, List.mem_range] at c2 c3 c4 c5 c7
  have lt_of : ∀ {i : Nat} {o : Oper}, ops[i]? = some o → i < ops.size := fun {i o} ho => (Array.getElem?_eq_some_iff.1 ho).1
  refine ⟨Nat.le_of_ble_eq_true c1, fun i o hi ho => c2 o ?_, fun i o ho e he hb => ?_, fun i j hi hj => ?_, fun i o hi ho t ht j hj hd => ?_, fun hlt k hk => ?_, fun k hk hk2 => ?_⟩
  · rw [List.mem_take_iff_getElem]
    obtain ⟨h1, h2⟩ := Array.getElem?_eq_some_iff.1 ho
    exact ⟨i, by simp only [Array.length_toList]; omega, by simpa using h2⟩
  · have := c3 i (lt_of ho)
    rw [ho] at this
    simp only [Option.any_some, Array.all_eq_true_iff_forall_mem, Bool.or_eq_true, Bool.not_eq_true'] at this
    rcases this e he with h0 | h0
    · rw [hb] at h0; cases h0
    · simpa using h0
  · have := c4 i hi j hj
    simpa using this
  · have := c5 i hi
    rw [ho] at this
    simp only [Option.any_some, List.all_eq_true, List.mem_range, Bool.or_eq_true, Bool.and_eq_true, bne_iff_ne, ne_eq] at this
    rcases this t ht j hj with h0 | h0
    · exact absurd hd h0
    · exact ⟨by simpa using h0.1, h0.2⟩
  · simp only [Bool.or_eq_true, List.all_eq_true, List.any_eq_true, List.mem_range, Bool.and_eq_true] at c6
    rcases c6 with h0 | h0
    · have := Nat.eq_of_beq_eq_true h0; omega
    · obtain ⟨m, hm, h1, h2⟩ := h0 k hk
      exact ⟨m, by omega, by simpa using h1, h2⟩
  · have := c7 k hk2
    simp only [Bool.or_eq_true] at this
    rcases this with h0 | h0
    · have : k < h + 1 := by simpa using h0
      omega
    · exact h0

/-- One operation's value in a state. -/
def Ev (P : Program) (T : Tab) (hs : List (Nat × Hint)) (all : Array Oper) (s : S) (o : Oper) (v : MV) : Prop := match o.guard with
  | none => ∃ p : Prop, stepF P T (hintOf hs o.dst) s o = some (p, s.put o.dst v) ∧ p
  | some (g, want) => (∃ b, guardV all s g = some b ∧ if b = want then ∃ p : Prop, stepF P T (hintOf hs o.dst) s o = some (p, s.put o.dst v) ∧ p else v = .tup [] ∧ Oper.dok o s.m = true) ∨ (guardU all s g = true ∧ v = .tup [] ∧ Oper.dok o s.m = true)

theorem vcStep_quiet {hs : List (Nat × Hint)} {s : S} {o : Oper} {K : S → Prop} (hq : quiet (hintOf hs o.dst) o = true) (h : vcStep P T hs s o K) :
    ∃ v, (∃ p : Prop, stepF P T (hintOf hs o.dst) s o = some (p, s.put o.dst v) ∧ p) ∧ K (s.put o.dst v) := by
  unfold vcStep at h
  split at h
  · rename_i q hg
    exfalso
    generalize hintOf hs o.dst = hh at hq hg
    simp only [quiet, Bool.and_eq_true] at hq
    generalize o.op = op at hq hg
    unfold conGoal at hg
    split at hg
    case h_5 => cases hg
    all_goals
      split at hg
      · rename_i hc
        have := hq.2
        simp [hc] at this
      · cases hg
  split at h
  · exact h.elim
  · rename_i p s' hstep
    rw [fS_eq] at h
    obtain ⟨v, rfl, _⟩ := quiet_step hq hstep
    exact ⟨v, ⟨p, hstep, h.1.h⟩, h.2⟩

theorem Ev.lk {hs : List (Nat × Hint)} {all : Array Oper} {s s1 : S} {o : Oper} {v : MV} (hq : quiet (hintOf hs o.dst) o = true) (hl : Lk s1 s) (h : ∃ p : Prop, stepF P T (hintOf hs o.dst) s1 o = some (p, s1.put o.dst v) ∧ p) :
    ∃ p : Prop, stepF P T (hintOf hs o.dst) s o = some (p, s.put o.dst v) ∧ p := by
  obtain ⟨p, h1, h2⟩ := h
  obtain ⟨v', hv, hall⟩ := quiet_step hq h1
  have hd : o.dst.isSome = true := by simp only [quiet, Bool.and_eq_true] at hq; exact hq.1
  obtain ⟨d, hd⟩ := Option.isSome_iff_exists.1 hd
  have : v = v' := by
    rw [hd] at hv
    have := congrArg S.env hv
    simpa [S.put] using this
  subst this
  exact ⟨p, hall s ⟨hl.m, hl.st, fun x hx => by cases x <;> simp only [evO, hl.env]⟩, h2⟩

theorem vcOps_quiet {hs : List (Nat × Hint)} {all : Array Oper} {s : S} {o : Oper} {rest : List Oper} {K : S → Prop} (hq : quiet (hintOf hs o.dst) o = true) (h : vcOps P T hs all (o :: rest) s K) :
    ∃ v s1, Lk s1 s ∧ Ev P T hs all s o v ∧ vcOps P T hs all rest (s1.put o.dst v) K := by
  simp only [vcOps] at h
  unfold Ev
  cases hg : o.guard with
  | none => 
    rw [hg] at h
    obtain ⟨v, h1, h2⟩ := vcStep_quiet hq h
    exact ⟨v, s, .rfl, h1, h2⟩
  | some q =>
    obtain ⟨g, want⟩ := q
    rw [hg] at h
    simp only at h ⊢
    cases hb : guardV all s g with
    | none =>
      rw [hb] at h
      obtain ⟨⟨h1⟩, ⟨h2⟩, h3⟩ := h
      rw [fS_eq] at h3
      exact ⟨.tup [], s, .rfl, .inr ⟨h1, rfl, h2⟩, h3⟩
    | some b =>
      rw [hb] at h
      by_cases hw : b = want
      · have h1 := h.1 hw
        rw [fS_eq] at h1
        obtain ⟨v, h2, h3⟩ := vcStep_quiet hq h1
        have hl : Lk (S.lit s all g want) s := S.lit_lk (hw ▸ hb)
        exact ⟨v, _, hl, .inl ⟨b, rfl, by rw [if_pos hw]; exact Ev.lk (all := all) hq hl h2⟩, h3⟩
      · have hw' : b = !want := by cases b <;> cases want <;> simp_all
        have h1 := h.2 hw'
        rw [fS_eq] at h1
        obtain ⟨⟨h1⟩, h2⟩ := h1
        rw [fS_eq] at h2
        have hl : Lk (S.lit s all g !want) s := S.lit_lk (hw' ▸ hb)
        exact ⟨.tup [], _, hl, .inl ⟨b, rfl, by rw [if_neg hw]; exact ⟨rfl, by rw [← hl.m]; exact h1⟩⟩, h2⟩

/-- The states alike at what an operation looks at. -/
def Same (all : Array Oper) (o : Oper) (s s' : S) : Prop := s.m = s'.m ∧ s.st = s'.st ∧ ∀ t ∈ o.looksAt all, look s.env t = look s'.env t

theorem Same.alike {all : Array Oper} {o : Oper} {s s' : S} (h : Same all o s s') : Alike s s' o.op.operands.toList := ⟨h.1, h.2.1, fun x hx => by
  cases x with
  | tmp t =>
    simp only [evO]
    refine h.2.2 t ?_
    simp only [Oper.looksAt, List.mem_append, List.mem_filterMap]
    exact .inl ⟨.tmp t, hx, rfl⟩
  | _ => rfl⟩
theorem Same.guard {all : Array Oper} {o : Oper} {s s' : S} (h : Same all o s s') {g : Nat} {want : Bool} (hg : o.guard = some (g, want)) : guardV all s g = guardV all s' g := by
  unfold guardV
  cases hd : (all[g]?).bind (·.dst) with
  | none => rfl
  | some d =>
    simp only [Option.bind_some]
    rw [h.2.2 d (by
      simp only [Oper.looksAt, hg, List.mem_append]
      exact .inr (by rw [hd]; simp))]

theorem Same.guardU {all : Array Oper} {o : Oper} {s s' : S} (h : Same all o s s') {g : Nat} {want : Bool} (hg : o.guard = some (g, want)) : Mg.guardU all s g = Mg.guardU all s' g := by
  unfold Mg.guardU
  cases hd : (all[g]?).bind (·.dst) with
  | none => rfl
  | some d =>
    simp only [Option.any_some]
    rw [h.2.2 d (by
      simp only [Oper.looksAt, hg, List.mem_append]
      exact .inr (by rw [hd]; simp))]

theorem Ev.same {hs : List (Nat × Hint)} {all : Array Oper} {s s' : S} {o : Oper} {v : MV} (hq : quiet (hintOf hs o.dst) o = true) (h : Ev P T hs all s o v) (ha : Same all o s s') : Ev P T hs all s' o v := by
  have key : (∃ p : Prop, stepF P T (hintOf hs o.dst) s o = some (p, s.put o.dst v) ∧ p) → ∃ p : Prop, stepF P T (hintOf hs o.dst) s' o = some (p, s'.put o.dst v) ∧ p := fun ⟨p, h1, h2⟩ => by
    obtain ⟨v', hv, hall⟩ := quiet_step hq h1
    have hd : o.dst.isSome = true := by simp only [quiet, Bool.and_eq_true] at hq; exact hq.1
    obtain ⟨d, hd⟩ := Option.isSome_iff_exists.1 hd
    have : v = v' := by
      rw [hd] at hv
      have := congrArg S.env hv
      simpa [S.put] using this
    subst this
    exact ⟨p, hall s' ha.alike, h2⟩
  unfold Ev at h ⊢
  cases hg : o.guard with
  | none => rw [hg] at h; exact key h
  | some q =>
    obtain ⟨g, want⟩ := q
    rw [hg] at h
    rcases h with ⟨b, hb, h⟩ | ⟨hu, hv, hd⟩
    rotate_left
    · exact .inr ⟨by rw [← ha.guardU hg]; exact hu, hv, by rw [← ha.1]; exact hd⟩
    refine .inl ⟨b, by rw [← ha.guard hg]; exact hb, ?_⟩
    by_cases hw : b = want
    · rw [if_pos hw] at h ⊢; exact key h
    · rw [if_neg hw] at h ⊢; exact ⟨h.1, by rw [← ha.1]; exact h.2⟩

section
variable {w0 : World} {wr : Wr} {A : Nat → Prop} {Q : Exit → Act → World → Prop} {all : Array Oper}

theorem Ev.wpOp {hs : List (Nat × Hint)} (hgt : GE P w0 wr A) (hT : TOk P T) {s : S} {o : Oper} {v : MV} {i : Nat} {a : Act} {w : World} {K : Act → World → Prop} (hi : all[i]? = some o) (h : Ev P T hs all s o v) (hr : Rel w0 wr A s a w)
    (hK : ∀ a w, Rel w0 wr A (s.put o.dst v) a w → K a w) : wpOp P all Q i K a w := by
  unfold Go.wpOp
  rw [hi]
  simp only
  unfold Ev at h
  cases hgd : o.guard with
  | none =>
    rw [hgd] at h
    obtain ⟨p, h1, h2⟩ := h
    have hw : Region.wanted o (yielded all a.tmps) = true := by simp [Region.wanted, hgd]
    rw [if_pos hw]
    exact .inl (stepF_ok (K := fun s' => s' = s.put o.dst v) hT h1 h2 rfl w0 wr A a w Q _ hgt hr fun s' a' w' hr' hk => hK a' w' (hk ▸ hr'))
  | some q =>
    obtain ⟨g, want⟩ := q
    rw [hgd] at h
    obtain ⟨L, F, hR⟩ := hr
    rcases h with ⟨b, hb, h⟩ | ⟨hu, rfl, hd⟩
    rotate_left
    · have hw : Region.wanted o (yielded all a.tmps) = false := by simp [Region.wanted, hgd, guardU_ok hR hu]
      rw [if_neg (by simp [hw])]
      exact hK _ _ ⟨L, F, hR.put (Oper.dok_spec hd) un_rv un_bd⟩
    have hy := guardV_ok hR hb
    by_cases hbw : b = want
    · rw [if_pos hbw] at h
      obtain ⟨p, h1, h2⟩ := h
      have hw : Region.wanted o (yielded all a.tmps) = true := by simp [Region.wanted, hgd, hy, hbw]
      rw [if_pos hw]
      exact .inl (stepF_ok (K := fun s' => s' = s.put o.dst v) hT h1 h2 rfl w0 wr A a w Q _ hgt ⟨L, F, hR⟩ fun s' a' w' hr' hk => hK a' w' (hk ▸ hr'))
    · rw [if_neg hbw] at h
      obtain ⟨rfl, hd⟩ := h
      have hw : Region.wanted o (yielded all a.tmps) = false := by simp [Region.wanted, hgd, hy, hbw]
      rw [if_neg (by simp [hw])]
      exact hK _ _ ⟨L, F, hR.put (Oper.dok_spec hd) un_rv un_bd⟩

theorem ready_all {md : Region.Mode} {listed : Array Bool} {hs : List (Nat × Hint)} {h : Nat} (hmd : md = .any) (hc : DChk hs all h) (hsz : listed.size = all.size) (hr : Region.ready md all listed = []) : ∀ i, i < all.size → listed.getD i true = true := by
  subst hmd
  intro i
  induction i using Nat.strongRecOn with
  | _ i ih =>
    intro hi
    cases hl : listed.getD i true with
    | true => rfl
    | false =>
      exfalso
      have : i ∈ Region.ready .any all listed := mem_ready.2 ⟨hl, all[i], Array.getElem?_eq_getElem hi, fun e he hb => by
        have hlt := hc.down i _ (Array.getElem?_eq_getElem hi) e he hb
        have h1 := ih e.on hlt (by omega)
        have : e.on < listed.size := by omega
        simpa [Array.getD_eq_getD_getElem?, Array.getElem?_eq_getElem this] using h1⟩
      rw [hr] at this
      cases this

def Closed (ops : Array Oper) (listed : Array Bool) : Prop := ∀ i j, listed.getD i false = true → waits ops i j = true → listed.getD j false = true

theorem getD_ft {listed : Array Bool} {i : Nat} (h : i < listed.size) : listed.getD i true = listed.getD i false := by
  simp [Array.getD_eq_getD_getElem?, Array.getElem?_eq_getElem h]
theorem waits_lt {i j : Nat} (h : waits all i j = true) : i < all.size := by
  unfold waits at h
  split at h
  · rename_i o ho; exact (Array.getElem?_eq_some_iff.1 ho).1
  · cases h
theorem Closed.set {listed : Array Bool} {i : Nat} (h : Closed all listed) (hr : ∀ j, waits all i j = true → listed.getD j false = true) : Closed all (listed.setIfInBounds i true) := fun k j hk hw => by
  by_cases e : k = i
  · subst e; exact getD_set_true (hr j hw)
  · rw [getD_set_ne false (Ne.symm e)] at hk
    exact getD_set_true (h k j hk hw)
theorem ready_waits {listed : Array Bool} {i : Nat} (h : i ∈ Region.ready .any all listed) : ∀ j, waits all i j = true → listed.getD j false = true := fun j hw => by
  obtain ⟨_, o, ho, hall⟩ := mem_ready.1 h
  obtain ⟨e, he, hb, rfl⟩ := waits_spec ho hw
  exact hall e he hb

/-- The rest in its order. -/
theorem tail_ok {hs : List (Nat × Hint)} {h : Nat} {K : S → Prop} (hgt : GE P w0 wr A) (hc : DChk hs all h) (hQ : ∀ s a w, Rel w0 wr A s a w → K s → Q .normal a w) : ∀ (fuel k : Nat) (listed : Array Bool) (s : S) (a : Act) (w : World), h ≤ k → k ≤ all.size → listed.size = all.size →
      (∀ i, i < all.size → listed.getD i true = decide (i < k)) → all.size - k ≤ fuel → Seq P all (all.toList.drop k) s K → Rel w0 wr A s a w → wpAny P .any all Q fuel listed a w := by
  have none_left : ∀ (listed : Array Bool), (∀ i, i < all.size → listed.getD i true = decide (i < all.size)) → Region.ready .any all listed = [] := fun listed hl => by
    refine List.eq_nil_iff_forall_not_mem.2 fun j hj => ?_
    obtain ⟨h0, o, ho, _⟩ := mem_ready.1 hj
    have hj : j < all.size := (Array.getElem?_eq_some_iff.1 ho).1
    rw [hl j hj] at h0
    simp [hj] at h0
  intro fuel
  induction fuel with
  | zero =>
    intro k listed s a w hk hks hsz hl hf hseq hr
    obtain rfl : k = all.size := by omega
    rw [List.drop_eq_nil_of_le (by simp)] at hseq
    exact ⟨none_left listed hl, hQ s a w hr hseq⟩
  | succ fuel ih =>
    intro k listed s a w hk hks hsz hl hf hseq hr
    refine ⟨fun hn => ?_, fun j hj => ?_⟩
    · have hall := ready_all rfl hc hsz hn
      have : k = all.size := by
        rcases Nat.lt_or_ge k all.size with g | g
        · have := hall k g
          rw [hl k g] at this
          simp at this
        · omega
      subst this
      rw [List.drop_eq_nil_of_le (by simp)] at hseq
      exact hQ s a w hr hseq
    · obtain ⟨h0, o, ho, _⟩ := mem_ready.1 hj
      have hjs : j < all.size := (Array.getElem?_eq_some_iff.1 ho).1
      rw [hl j hjs] at h0
      have hkj : k ≤ j := by simpa using h0
      obtain rfl : j = k := by
        rcases Nat.eq_or_lt_of_le hkj with e | e
        · exact e.symm
        · have hw := hc.tail j (by omega) hjs
          have := ready_waits hj (j - 1) hw
          rw [← getD_ft (by omega), hl (j - 1) (by omega)] at this
          simp at this
          omega
      rw [List.drop_eq_getElem_cons (by simpa using hjs)] at hseq
      have hoe : all.toList[j]'(by simpa using hjs) = o := by
        have := (Array.getElem?_eq_some_iff.1 ho).2
        simpa using this
      rw [hoe] at hseq
      have next : ∀ s' a' w', Seq P all (all.toList.drop (j + 1)) s' K → Rel w0 wr A s' a' w' → wpAny P .any all Q fuel (listed.setIfInBounds j true) a' w' := fun s' a' w' h1 h2 =>
        ih (j + 1) _ s' a' w' (by omega) (by omega) (by simpa using hsz) (fun i hi => by
          by_cases e : j = i
          · subst e; simp [Array.getD_eq_getD_getElem?, hsz, hjs]
          · rw [getD_set_ne true e, hl i hi]
            have : (i < j) = (i < j + 1) := by apply propext; omega
            simp only [this]) (by omega) h1 h2
      unfold Go.wpOp
      rw [ho]
      simp only
      simp only [Seq] at hseq
      cases hg : o.guard with
      | none =>
        rw [hg] at hseq
        have hw : Region.wanted o (yielded all a.tmps) = true := by simp [Region.wanted, hg]
        rw [if_pos hw]
        exact .inl (hseq w0 wr A a w Q _ hgt hr fun s' a' w' hr' hk => next s' a' w' hk hr')
      | some q =>
        obtain ⟨g, want⟩ := q
        rw [hg] at hseq
        obtain ⟨L, F, hR⟩ := hr
        rcases hseq with ⟨b, s1, hb, hl, hseq⟩ | ⟨hu, hd, hseq⟩
        rotate_left
        · have hw : Region.wanted o (yielded all a.tmps) = false := by simp [Region.wanted, hg, guardU_ok hR hu]
          rw [if_neg (by simp [hw])]
          exact next _ _ _ hseq ⟨L, F, hR.put (Oper.dok_spec hd) un_rv un_bd⟩
        have hy := guardV_ok hR hb
        have hR := hl.rl hR
        by_cases hbw : b = want
        · rw [if_pos hbw] at hseq
          have hw : Region.wanted o (yielded all a.tmps) = true := by simp [Region.wanted, hg, hy, hbw]
          rw [if_pos hw]
          exact .inl (hseq w0 wr A a w Q _ hgt ⟨L, F, hR⟩ fun s' a' w' hr' hk => next s' a' w' hk hr')
        · rw [if_neg hbw] at hseq
          have hw : Region.wanted o (yielded all a.tmps) = false := by simp [Region.wanted, hg, hy, hbw]
          rw [if_neg (by simp [hw])]
          exact next _ _ _ hseq.2 ⟨L, F, hR.put (Oper.dok_spec hseq.1) un_rv un_bd⟩


/-- The states of the head. -/
def stAt (s : S) (ops : Array Oper) (vals : Nat → MV) : Nat → S
  | 0 => s
  | i + 1 => (stAt s ops vals i).put (dstOf ops i) (vals i)

theorem stAt_m (s : S) (vals : Nat → MV) : ∀ i, (stAt s all vals i).m = s.m ∧ (stAt s all vals i).st = s.st ∧ (stAt s all vals i).n = s.n
  | 0 => ⟨rfl, rfl, rfl⟩
  | i + 1 => by
    obtain ⟨h1, h2, h3⟩ := stAt_m s vals i
    unfold stAt
    cases dstOf all i <;> simp [S.put, h1, h2, h3]

/-- What a slot reads as when these operations are done. -/
def Reads (s : S) (ops : Array Oper) (vals : Nat → MV) (h : Nat) (D : Nat → Prop) (s' : S) : Prop :=
  (s'.m = s.m ∧ s'.n = s.n) ∧ s'.st = s.st ∧ (∀ i, i < h → D i → ∀ t, dstOf ops i = some t → look s'.env t = some (vals i)) ∧ ∀ t, (∀ i, i < h → D i → dstOf ops i ≠ some t) → look s'.env t = look s.env t

theorem Reads.step {hs : List (Nat × Hint)} {h : Nat} {vals : Nat → MV} {s s' : S} {D : Nat → Prop} (hc : DChk hs all h) (hr : Reads s all vals h D s') {i : Nat} (hi : i < h) (hD : ¬ D i) :
    Reads s all vals h (fun j => j = i ∨ D j) (s'.put (dstOf all i) (vals i)) := by
  obtain ⟨h1, h2, h3, h4⟩ := hr
  have hlt : i < all.size := Nat.lt_of_lt_of_le hi hc.le
  have hq := hc.quiet i _ hi (Array.getElem?_eq_getElem hlt)
  have hds : (all[i]).dst.isSome = true := by simp only [Mg.quiet, Bool.and_eq_true] at hq; exact hq.1
  obtain ⟨d, hd⟩ := Option.isSome_iff_exists.1 hds
  have hd' : dstOf all i = some d := by simp [dstOf, Array.getElem?_eq_getElem hlt, hd]
  have huniq : ∀ j, j < h → j ≠ i → dstOf all j ≠ some d := fun j hj hne => by
    rcases Nat.lt_or_gt_of_ne hne with g | g
    · have := hc.uniq i j hi g; rw [hd'] at this; exact fun e => this e.symm
    · have := hc.uniq j i hj g; rw [hd'] at this; exact this
  rw [hd']
  refine ⟨h1, h2, fun j hj hD' t ht => ?_, fun t ht => ?_⟩
  · simp only [S.put, look_cons]
    by_cases e : j = i
    · subst e
      rw [hd'] at ht
      rw [if_pos (Option.some.inj ht).symm]
    · have hne := huniq j hj e
      rw [if_neg (fun e' : t = d => hne (by rw [ht, e']))]
      exact h3 j hj (hD'.resolve_left e) t ht
  · simp only [S.put, look_cons]
    have := ht i hi (.inl rfl)
    rw [hd'] at this
    rw [if_neg (fun e : t = d => this (by rw [e]))]
    exact h4 t fun j hj hD' => ht j hj (.inr hD')

theorem Reads.stAt {hs : List (Nat × Hint)} {h : Nat} {vals : Nat → MV} {s : S} (hc : DChk hs all h) : ∀ k, k ≤ h → Reads s all vals h (fun j => j < k) (Mg.stAt s all vals k)
  | 0, _ => ⟨⟨rfl, rfl⟩, rfl, fun i _ hi => by omega, fun t _ => rfl⟩
  | k + 1, hk => by
    obtain ⟨h1, h2, h3, h4⟩ := (Reads.stAt (s := s) (vals := vals) hc k (by omega)).step hc (i := k) (by omega) (by omega)
    exact ⟨h1, h2, fun i hi hD => h3 i hi (by omega), fun t ht => h4 t fun i hi hD => ht i hi (by omega)⟩

/-- The head's values out of its reckoning. -/
theorem head_valsL {hs : List (Nat × Hint)} {h : Nat} {K : S → Prop} (hc : DChk hs all h) {s : S} {l : List Oper} (hl : ∀ i, i < h → l[i]? = all[i]?) (hv : vcOps P T hs all l s K) : ∀ k, k ≤ h →
    ∃ vals : Nat → MV, (∀ i o, i < k → all[i]? = some o → Ev P T hs all (stAt s all vals i) o (vals i)) ∧ ∃ sk, Lk sk (stAt s all vals k) ∧ vcOps P T hs all (l.drop k) sk K
  | 0, _ => ⟨fun _ => .un, fun i o hi => by omega, s, .rfl, by simpa using hv⟩
  | k + 1, hk => by
    obtain ⟨vals, h1, sk, hlk, h2⟩ := head_valsL hc hl hv k (by omega)
    have hlt : k < all.size := Nat.lt_of_lt_of_le (by omega) hc.le
    have hlk2 : l[k]? = some all[k] := by rw [hl k (by omega)]; exact Array.getElem?_eq_getElem hlt
    rw [List.drop_eq_getElem_cons (List.getElem?_eq_some_iff.1 hlk2).1] at h2
    have hoe : l[k]'((List.getElem?_eq_some_iff.1 hlk2).1) = all[k] := (List.getElem?_eq_some_iff.1 hlk2).2
    rw [hoe] at h2
    have hqk := hc.quiet k _ (by omega) (Array.getElem?_eq_getElem hlt)
    obtain ⟨v, s1, hl1, h3, h4⟩ := vcOps_quiet hqk h2
    have h3 : Ev P T hs all (stAt s all vals k) all[k] v := h3.same hqk ⟨hlk.m, hlk.st, fun t _ => hlk.env t⟩
    let vals' : Nat → MV := fun i => if i = k then v else vals i
    have heq : ∀ i, i ≤ k → stAt s all vals' i = stAt s all vals i := fun i => by
      induction i with
      | zero => intro _; rfl
      | succ i ih =>
        intro hi
        simp only [stAt]
        rw [ih (by omega)]
        have : vals' i = vals i := if_neg (by omega)
        rw [this]
    have hvk : vals' k = v := if_pos rfl
    refine ⟨vals', fun i o hi ho => ?_, ?_⟩
    · by_cases e : i = k
      · subst e
        rw [heq i (Nat.le_refl _), hvk]
        obtain rfl : all[i] = o := by
          have := (Array.getElem?_eq_some_iff.1 ho).2
          exact this
        exact h3
      · rw [heq i (by omega), show vals' i = vals i from if_neg e]
        exact h1 i o (by omega) ho
    · have : stAt s all vals' (k + 1) = (stAt s all vals k).put (all[k]).dst v := by
        simp only [stAt]
        rw [heq k (Nat.le_refl _), hvk]
        simp [dstOf, Array.getElem?_eq_getElem hlt]
      rw [this]
      refine ⟨_, ⟨?_, ?_, ?_, fun t => ?_⟩, h4⟩
      · cases (all[k]).dst <;> simp [S.put, hl1.m, hlk.m]
      · cases (all[k]).dst <;> simp [S.put, hl1.n, hlk.n]
      · cases (all[k]).dst <;> simp [S.put, hl1.st, hlk.st]
      · cases (all[k]).dst <;> simp [S.put, look_cons, hl1.env, hlk.env]

theorem head_vals {hs : List (Nat × Hint)} {h : Nat} {K : S → Prop} (hc : DChk hs all h) {s : S} (hv : vcOps P T hs all all.toList s K) (k : Nat) (hk : k ≤ h) :
    ∃ vals : Nat → MV, (∀ i o, i < k → all[i]? = some o → Ev P T hs all (stAt s all vals i) o (vals i)) ∧ ∃ sk, Lk sk (stAt s all vals k) ∧ vcOps P T hs all (all.toList.drop k) sk K :=
  head_valsL hc (fun i _ => by simp) hv k hk

theorem head_gen {hs : List (Nat × Hint)} (hgt : GE P w0 wr A) (hT : TOk P T) {h : Nat} {Q : Exit → Act → World → Prop} (hc : DChk hs all h) {s : S} {vals : Nat → MV}
    (hev : ∀ i o, i < h → all[i]? = some o → Ev P T hs all (stAt s all vals i) o (vals i)) {sh : S} (hsh : Lk sh (stAt s all vals h))
    (full0 : ∀ (fuel : Nat) (listed : Array Bool) (a : Act) (w : World), listed.size = all.size → (∀ i, h ≤ i → i < all.size → listed.getD i true = false) → (∀ i, i < h → listed.getD i true = true) →
      all.size - h ≤ fuel → Rel w0 wr A sh a w → wpAny P .any all Q fuel listed a w) :
    ∀ (fuel : Nat) (listed : Array Bool) (s' : S) (a : Act) (w : World), listed.size = all.size → Closed all listed → (∀ i, h ≤ i → i < all.size → listed.getD i true = false) →
      cntU (fun i => !listed.getD i true) all.size ≤ fuel → Reads s all vals h (fun i => listed.getD i true = true) s' → Rel w0 wr A s' a w → wpAny P .any all Q fuel listed a w := by
  -- the head is done
  have full : ∀ (fuel : Nat) (listed : Array Bool) (s' : S) (a : Act) (w : World), listed.size = all.size → (∀ i, h ≤ i → i < all.size → listed.getD i true = false) → (∀ i, i < h → listed.getD i true = true) →
      all.size - h ≤ fuel → Reads s all vals h (fun i => listed.getD i true = true) s' → Rel w0 wr A s' a w → wpAny P .any all Q fuel listed a w := fun fuel listed s' a w hsz hun hall hf hrd hr => by
    have hsub : Rel w0 wr A sh a w := by
      obtain ⟨L, F, hR⟩ := hr
      have hst := Reads.stAt (s := s) (vals := vals) hc h (Nat.le_refl _)
      obtain ⟨a1, a2, a3, a4⟩ := hst
      obtain ⟨b1, b2, b3, b4⟩ := hrd
      have hlk : ∀ t, look (stAt s all vals h).env t = look s'.env t := fun t => by
        by_cases ht : ∃ i, i < h ∧ dstOf all i = some t
        · obtain ⟨i, hi, hd⟩ := ht
          rw [a3 i hi hi t hd, b3 i hi (hall i hi) t hd]
        · rw [a4 t fun i hi _ hd => ht ⟨i, hi, hd⟩, b4 t fun i hi _ hd => ht ⟨i, hi, hd⟩]
      exact ⟨L, F, hsh.rl <| hR.weaken ⟨by rw [a1.1, b1.1], fun t v hv => by
        rw [hlk t] at hv
        refine ⟨hv, ?_⟩
        have := hR.ben t v hv
        rw [a1.2, ← b1.2]; exact this, fun id o ho => by
        rw [a2, ← b2] at ho
        have := hR.bst id o ho
        rw [a1.2, ← b1.2]; exact ⟨ho, this.1, this.2⟩⟩ fun i hi => by rw [a1.2, ← b1.2]; exact (hR.pin i hi).2⟩
    exact full0 fuel listed a w hsz hun hall hf hsub
  intro fuel
  induction fuel with
  | zero =>
    intro listed s' a w hsz hcl hun hcnt hrd hr
    have hz := cntU_zero (Nat.le_zero.1 hcnt)
    have hh : all.size ≤ h := by
      rcases Nat.lt_or_ge h all.size with g | g
      · have := hz h g; rw [hun h (Nat.le_refl _) g] at this; cases this
      · exact g
    exact full 0 listed s' a w hsz hun (fun i hi => by have := hz i (Nat.lt_of_lt_of_le hi hc.le); simpa using this) (by omega) hrd hr
  | succ fuel ih =>
    intro listed s' a w hsz hcl hun hcnt hrd hr
    by_cases hall : ∀ i, i < h → listed.getD i true = true
    · exact full (fuel + 1) listed s' a w hsz hun hall (by
        have := cntU_ge (f := fun i => !listed.getD i true) (h := h) (n := all.size) fun i hi his => by simp only [hun i hi his]; rfl
        omega) hrd hr
    · refine ⟨fun hn => absurd (fun i hi => ready_all rfl hc hsz hn i (Nat.lt_of_lt_of_le hi hc.le)) hall, fun j hj => ?_⟩
      obtain ⟨h0, o, ho, _⟩ := mem_ready.1 hj
      have hjs : j < all.size := (Array.getElem?_eq_some_iff.1 ho).1
      have hw := ready_waits hj
      have hjh : j < h := by
        rcases Nat.lt_or_ge j h with g | g
        · exact g
        · exfalso
          apply hall
          -- all before j are listed, so j = h and the head is done
          have hjeq : j = h := by
            rcases Nat.eq_or_lt_of_le g with e | e
            · exact e.symm
            · have h1 := hw (j - 1) (hc.tail j e hjs)
              have := hun (j - 1) (by omega) (by omega)
              rw [getD_ft (by omega)] at this
              rw [this] at h1; cases h1
          subst hjeq
          have down : ∀ d i, i + d = j → 0 < d → listed.getD i true = true := fun d => by
            induction d using Nat.strongRecOn with
            | _ d ihd =>
              intro i hid hpos
              obtain ⟨m, hm1, hm2, hm3⟩ := hc.head hjs i (by omega)
              rw [getD_ft (by omega)]
              by_cases e : m = j
              · subst e; exact hw i hm3
              · have := ihd (j - m) (by omega) m (by omega) (by omega)
                rw [getD_ft (by omega)] at this
                exact hcl m i this hm3
          exact fun i hi => down (j - i) i (by omega) (by omega)
      have hsame : Same all o (stAt s all vals j) s' := by
        obtain ⟨a1, a2, a3, a4⟩ := Reads.stAt (s := s) (vals := vals) hc j (by omega)
        obtain ⟨b1, b2, b3, b4⟩ := hrd
        refine ⟨by rw [a1.1, b1.1], by rw [a2, b2], fun t ht => ?_⟩
        by_cases hd : ∃ i, i < h ∧ dstOf all i = some t
        · obtain ⟨i, hi, hd⟩ := hd
          obtain ⟨hij, hwt⟩ := hc.look j o hjh ho t ht i hi hd
          have hl := hw i hwt
          rw [← getD_ft (by omega)] at hl
          rw [a3 i hi hij t hd, b3 i hi hl t hd]
        · rw [a4 t fun i hi _ hd' => hd ⟨i, hi, hd'⟩, b4 t fun i hi _ hd' => hd ⟨i, hi, hd'⟩]
      have hev' := (hev j o hjh ho).same (hc.quiet j o hjh ho) hsame
      refine hev'.wpOp hgt hT ho hr fun a' w' hr' => ?_
      have hdst : o.dst = dstOf all j := by simp [dstOf, ho]
      refine ih _ (s'.put o.dst (vals j)) a' w' (by simpa using hsz) (hcl.set hw) (fun i hi his => by
        rw [getD_set_ne true (by omega)]; exact hun i hi his) ?_ ?_ hr'
      · have := cntU_set (f := fun i => !listed.getD i true) (g := fun i => !(listed.setIfInBounds j true).getD i true) (i := j) (by simp only [h0]; rfl) (by simp [Array.getD_eq_getD_getElem?, hsz, hjs]) (fun i hi => by
          simp only [getD_set_ne true (Ne.symm hi)]) all.size hjs
        omega
      · rw [hdst]
        have := hrd.step hc hjh (by rw [h0]; simp)
        obtain ⟨c1, c2, c3, c4⟩ := this
        have hiff : ∀ i, (listed.setIfInBounds j true).getD i true = true ↔ (i = j ∨ listed.getD i true = true) := fun i => by
          by_cases e : i = j
          · subst e; simp [Array.getD_eq_getD_getElem?, hsz, hjs]
          · rw [getD_set_ne true (Ne.symm e)]; simp [e]
        exact ⟨c1, c2, fun i hi hD => c3 i hi ((hiff i).1 hD), fun t ht => c4 t fun i hi hD => ht i hi ((hiff i).2 hD)⟩

theorem head_ok {hs : List (Nat × Hint)} (hgt : GE P w0 wr A) (hT : TOk P T) {h : Nat} {Q : Exit → Act → World → Prop} {K : S → Prop} (hc : DChk hs all h) (hQ : ∀ s a w, Rel w0 wr A s a w → K s → Q .normal a w) {s : S} {vals : Nat → MV}
    (hev : ∀ i o, i < h → all[i]? = some o → Ev P T hs all (stAt s all vals i) o (vals i)) {sh : S} (hsh : Lk sh (stAt s all vals h)) (htl : vcOps P T hs all (all.toList.drop h) sh K) :
    ∀ (fuel : Nat) (listed : Array Bool) (s' : S) (a : Act) (w : World), listed.size = all.size → Closed all listed → (∀ i, h ≤ i → i < all.size → listed.getD i true = false) →
      cntU (fun i => !listed.getD i true) all.size ≤ fuel → Reads s all vals h (fun i => listed.getD i true = true) s' → Rel w0 wr A s' a w → wpAny P .any all Q fuel listed a w :=
  head_gen hgt hT hc hev hsh fun fuel listed a w hsz hun hall hf hsub =>
    tail_ok hgt hc hQ fuel h listed _ a w (Nat.le_refl _) hc.le hsz (fun i hi => by
      by_cases g : i < h
      · simp [g, hall i g]
      · simp [g, hun i (by omega) hi]) hf (vcOps_ok hT _ _ _ htl) hsub

end

/-- A DRAWN REGION. -/
theorem W.drawn {kk : Nat} {id : Nat} {ops : Array Oper} {s : S} {Q : Exit → S → Prop} (hs : List (Nat × Hint)) (h : Nat) (hT : TOk P T) (hm : P.follows .mixedOrders = true) (hc : dchk hs ops h = true)
    (hv : vcOps P T hs ops ops.toList s fun s' => Q .normal s') : W kk P (.region id ops true) s Q := fun w0 wr A a w hkk ⟨L, F, hr⟩ => by
  have hc := dchk_spec hc
  obtain ⟨vals, h1, sh, hsh, h2⟩ := head_vals hc hv h (Nat.le_refl _)
  refine wp_region_any hm (head_ok hkk.2 hT hc (K := fun s' => Q .normal s') (fun s a w hr hk => ⟨s, hr, hk⟩) h1 hsh h2 ops.size _ s a _ (by simp) ?_ ?_ ?_ ?_ ⟨L, F, hr.drew⟩)
  · intro i j hi hw
    have hlt := waits_lt hw
    simp [Array.getD_eq_getD_getElem?, hlt] at hi
  · intro i _ hi; simp [Array.getD_eq_getD_getElem?, hi]
  · have : ∀ (f : Nat → Bool) n, cntU f n ≤ n := fun f n => by
      induction n with
      | zero => exact Nat.le_refl _
      | succ n ih => simp only [cntU]; split <;> omega
    exact this _ _
  · refine ⟨⟨rfl, rfl⟩, rfl, fun i hi hD t ht => ?_, fun t _ => rfl⟩
    exfalso
    have hlt : i < ops.size := Nat.lt_of_lt_of_le hi hc.le
    simp [Array.getD_eq_getD_getElem?, hlt] at hD

end Mg

/- The abstract state logic, part 30: a step, from states that are alike. No condition. -/
namespace Mg
open Go Go.RowKit
set_option linter.unusedVariables false

variable {P : Program} {T : Tab}

structure Al (s s2 : S) (l : List Operand) : Prop where
  m : s.m = s2.m
  n : s.n = s2.n
  st : s.st = s2.st
  ev : ∀ x ∈ l, evO s x = evO s2 x
theorem Al.alike {s s2 : S} {l : List Operand} (h : Al s s2 l) : Alike s s2 l := ⟨h.m, h.st, h.ev⟩

/-- Two states, one step further, alike. -/
structure Twin (dst : Option Nat) (s s' s2 s2' : S) : Prop where
  m : s'.m = s2'.m
  n : s'.n = s2'.n
  st : s'.st = s2'.st
  env : ∃ e : List (Nat × MV), (∀ q ∈ e, dst = some q.1) ∧ s'.env = e ++ s.env ∧ s2'.env = e ++ s2.env

theorem Twin.put {s s2 : S} {l : List Operand} (h : Al s s2 l) {n : Nat} {st : List (Nat × Ob)} {dst : Option Nat} {v : MV} :
    Twin dst s (S.put ⟨s.m, n, s.env, st⟩ dst v) s2 (S.put ⟨s2.m, n, s2.env, st⟩ dst v) := by
  cases dst with
  | none => exact ⟨h.m, rfl, rfl, [], ⟨fun q hq => (by cases hq), rfl, rfl⟩⟩
  | some d => exact ⟨h.m, rfl, rfl, [(d, v)], ⟨fun q hq => (by simp at hq; rw [hq]), rfl, rfl⟩⟩

theorem adC_nat {s s2 : S} (hm : s.m = s2.m) (hn : s.n = s2.n) (hst : s.st = s2.st) : ∀ cs : List MC, ∃ n st, adC s cs = ((adC s cs).1, ⟨s.m, n, s.env, st⟩) ∧ adC s2 cs = ((adC s cs).1, ⟨s2.m, n, s2.env, st⟩) := by
  intro cs
  induction cs generalizing s s2 with
  | nil => exact ⟨s.n, s.st, rfl, by rw [hn, hst]; rfl⟩
  | cons c cs ih =>
    have base : ∀ (c : MC), (∀ s : S, adC s (c :: cs) = (c :: (adC s cs).1, (adC s cs).2)) → ∃ n st, adC s (c :: cs) = ((adC s (c :: cs)).1, ⟨s.m, n, s.env, st⟩) ∧ adC s2 (c :: cs) = ((adC s (c :: cs)).1, ⟨s2.m, n, s2.env, st⟩) := fun c he => by
      obtain ⟨n, st, h1, h2⟩ := ih hm hn hst
      refine ⟨n, st, ?_, ?_⟩
      · rw [he, h1]
      · rw [he s2, he s, h2]
    cases c with
    | own rows =>
      obtain ⟨n, st, h1, h2⟩ := ih (s := s.app rows s.st) (s2 := s2.app rows s2.st) hm (by simp [S.app, hn]) (by simp [S.app, hn, hst])
      refine ⟨n, st, ?_, ?_⟩
      · simp only [adC]; rw [h1]; rfl
      · simp only [adC]; rw [h2, hn]; rfl
    | _ => exact base _ fun s => rfl
theorem adV1_nat {s s2 : S} (hm : s.m = s2.m) (hn : s.n = s2.n) (hst : s.st = s2.st) (v : MV) : ∃ n st, adV1 s v = ((adV1 s v).1, ⟨s.m, n, s.env, st⟩) ∧ adV1 s2 v = ((adV1 s v).1, ⟨s2.m, n, s2.env, st⟩) := by
  have un : ∃ n st, ((MV.un, s) : MV × S) = (MV.un, ⟨s.m, n, s.env, st⟩) ∧ ((MV.un, s2) : MV × S) = (MV.un, ⟨s2.m, n, s2.env, st⟩) := ⟨s.n, s.st, rfl, by rw [hn, hst]⟩
  cases v with
  | one c =>
    obtain ⟨n, st, h1, h2⟩ := adC_nat hm hn hst [c]
    refine ⟨n, st, ?_, ?_⟩
    · simp only [adV1]; rw [h1]; cases (adC s [c]).1 <;> rfl
    · simp only [adV1]; rw [h2, h1]; cases (adC s [c]).1 <;> rfl
  | agg cs =>
    obtain ⟨n, st, h1, h2⟩ := adC_nat hm hn hst cs
    refine ⟨n, st, ?_, ?_⟩
    · simp only [adV1]; rw [h1]
    · simp only [adV1]; rw [h2]
  | un => exact un
  | tup _ => exact un
theorem adT_nat {s s2 : S} (hm : s.m = s2.m) (hn : s.n = s2.n) (hst : s.st = s2.st) : ∀ vs : List MV, ∃ n st, adT s vs = ((adT s vs).1, ⟨s.m, n, s.env, st⟩) ∧ adT s2 vs = ((adT s vs).1, ⟨s2.m, n, s2.env, st⟩) := by
  intro vs
  induction vs generalizing s s2 with
  | nil => exact ⟨s.n, s.st, rfl, by rw [hn, hst]; rfl⟩
  | cons v vs ih =>
    obtain ⟨n, st, h1, h2⟩ := adV1_nat hm hn hst v
    obtain ⟨n', st', h3, h4⟩ := ih (s := ⟨s.m, n, s.env, st⟩) (s2 := ⟨s2.m, n, s2.env, st⟩) hm rfl rfl
    refine ⟨n', st', ?_, ?_⟩
    · simp only [adT]; rw [h1]; simp only; rw [h3]
    · simp only [adT]; rw [h2, h1]; simp only; rw [h4]
theorem adV_nat {s s2 : S} (hm : s.m = s2.m) (hn : s.n = s2.n) (hst : s.st = s2.st) (v : MV) : ∃ n st, adV s v = ((adV s v).1, ⟨s.m, n, s.env, st⟩) ∧ adV s2 v = ((adV s v).1, ⟨s2.m, n, s2.env, st⟩) := by
  cases v with
  | tup vs =>
    obtain ⟨n, st, h1, h2⟩ := adT_nat hm hn hst vs
    refine ⟨n, st, ?_, ?_⟩
    · simp only [adV]; rw [h1]
    · simp only [adV]; rw [h2]
  | un => exact adV1_nat hm hn hst .un
  | one c => exact adV1_nat hm hn hst (.one c)
  | agg cs => exact adV1_nat hm hn hst (.agg cs)

def chainOp (h : Option Hint) (o : Oper) : Bool := o.guard.isNone && match o.op with
  | .store _ _ _ => true
  | .alloc _ => true
  | .box _ _ => true
  | .call c => match c.callee with
    | .value (.func _) => match h with
      | some (.tre true _) => false
      | some (.told _) => false
      | some (.mark _ _ _ _ _) => false
      | _ => true
    | .builtin .append => match h with
      | some (.res _) => false
      | _ => true
    | _ => false
  | _ => false

theorem rowsOf_st {s s2 : S} (h : s.st = s2.st) (c : MC) : rowsOf s2 c = rowsOf s c := by
  cases c <;> simp only [rowsOf, h]
theorem baseq_st {s s2 : S} (h : s.st = s2.st) (c : MC) : base? s2 c = base? s c := by
  cases c <;> simp only [base?, h]

theorem stepF_nat {h : Option Hint} {s s2 s' : S} {o : Oper} {p : Prop} (hc : chainOp h o = true) (ha : Al s s2 o.op.operands.toList) (hs : stepF P T h s o = some (p, s')) :
    ∃ s2', stepF P T h s2 o = some (p, s2') ∧ Twin o.dst s s' s2 s2' := by
  simp only [chainOp, Bool.and_eq_true] at hc
  obtain ⟨_, hc⟩ := hc
  unfold stepF at hs
  split at hs
  · cases hs
  rename_i hd
  have hd2 : Oper.dok o s2.m = true := by rw [← ha.m]; exact hd
  cases ho : o.op <;> rw [ho] at hc hs <;> try (simp at hc; done)
  case store t x y =>
    simp only at hs
    split at hs
    · rename_i i id r f cs hdst ht hx hy
      split at hs
      · rename_i ob hlk
        obtain ⟨q, hq, he⟩ := Option.map_eq_some_iff.1 hs
        obtain ⟨rfl, rfl⟩ := Prod.mk.inj he
        have e1 : evO s2 x = evO s x := (ha.ev x (by rw [ho]; simp [Op.operands])).symm
        have e2 : evO s2 y = evO s y := (ha.ev y (by rw [ho]; simp [Op.operands])).symm
        refine ⟨s2.set id q.2, ?_, ⟨ha.m, ha.n, by simp only [S.set, ha.st], [], ⟨fun q hq => (by cases hq), rfl, rfl⟩⟩⟩
        unfold stepF
        simp only [hd2, ho, hdst, ht, e1, e2, hx, hy, ← ha.st, hlk, hq, Option.map_some]
      · cases hs
    · cases hs
  case alloc t =>
    simp only at hs
    split at hs
    · rename_i i ht
      obtain ⟨rfl, rfl⟩ := pj hs
      refine ⟨_, ?_, Twin.put ha (n := s.n + 1) (st := (s.n, .box (i.z.map ZC.mc)) :: s.st) (v := .one (.ptr s.n 0 0))⟩
      unfold stepF
      simp only [hd2, ho, ht, S.new, ha.n, ha.st]
    · cases hs
  case box t x =>
    simp only at hs
    split at hs
    · rename_i cs hx
      obtain ⟨rfl, rfl⟩ := pj hs
      have e1 : evO s2 x = evO s x := (ha.ev x (by rw [ho]; simp [Op.operands])).symm
      refine ⟨_, ?_, Twin.put ha (n := s.n + 1) (st := (s.n, .box cs) :: s.st) (v := .one (.ptr s.n 0 0))⟩
      unfold stepF
      simp only [hd2, ho, e1, hx, S.new, ha.n, ha.st]
    · cases hs
  case call c =>
    obtain ⟨cal, args, ats⟩ := c
    have hmem : ∀ x ∈ args.toList, x ∈ o.op.operands.toList := fun x hx => by
      rw [ho]; cases cal <;> simp [Op.operands, Call.operands] <;> first | exact .inr (by simpa using hx) | simpa using hx
    cases cal with
    | invoke r m => simp at hc
    | builtin b =>
      cases b <;> try (simp at hc; done)
      simp only at hs
      have key : stepAp T s o args.toList ats.toList = some (p, s') → ∃ s2', stepAp T s2 o args.toList ats.toList = some (p, s2') ∧ Twin o.dst s s' s2 s2' := fun hs => by
        unfold stepAp at hs
        split at hs
        · rename_i x y t t2 hargs hats
          split at hs
          · rename_i i i2 c d ht ht2 hx hy
            split at hs
            · rename_i e e2 hk hk2
              split at hs
              · rename_i ie rows st rows2 he hb hr
                split at hs
                · rename_i hee
                  obtain ⟨rfl, rfl⟩ := pj hs
                  have e1 : evO s2 x = evO s x := (ha.ev x (hmem x (by rw [hargs]; simp))).symm
                  have e2 : evO s2 y = evO s y := (ha.ev y (hmem y (by rw [hargs]; simp))).symm
                  refine ⟨_, ?_, Twin.put ha (n := s.n + 1) (st := (s.n, .arr (rows ++ rows2)) :: st) (v := .one (.ref s.n 0 (rows.length + rows2.length)))⟩
                  simp only [stepAp, hargs, hats, ht, ht2, e1, e2, hx, hy, hk, hk2, he, baseq_st ha.st, rowsOf_st ha.st, hb, hr]
                  rw [if_pos hee]
                  simp only [S.app, ha.n]
                · cases hs
              · cases hs
            · cases hs
          · cases hs
        · cases hs
      split at hs
      · rename_i r d hdst
        simp at hc
      · rename_i hno
        obtain ⟨s2', h1, h2⟩ := key hs
        refine ⟨s2', ?_, h2⟩
        unfold stepF
        simp only [hd2, ho]
        exact h1
    | value f =>
      cases f <;> try (simp at hc; done)
      rename_i f
      simp only at hs
      have hl : lend s2 args.toList = lend s args.toList := (lend_alike ha.st args.toList fun x hx => ha.ev x (hmem x hx)).symm
      split at hs
      · rename_i p' ds r hlend
        obtain ⟨rfl, rfl⟩ := pj hs
        obtain ⟨n, st, g1, g2⟩ := adV_nat ha.m ha.n ha.st r
        have t := Twin.put ha (n := n) (st := st) (dst := o.dst) (v := (adV s r).1)
        refine ⟨(adV s2 r).2.put o.dst (adV s2 r).1, ?_, ?_⟩
        · unfold stepF
          simp only [hd2, ho, hl, hlend]
        · rw [g2, g1]; exact t
      · rename_i p' ds g hlend
        obtain ⟨rfl, rfl⟩ := pj hs
        obtain ⟨n, st, g1, g2⟩ := adV_nat ha.m ha.n ha.st (g ds)
        have t := Twin.put ha (n := n) (st := st) (dst := o.dst) (v := (adV s (g ds)).1)
        refine ⟨(adV s2 (g ds)).2.put o.dst (adV s2 (g ds)).1, ?_, ?_⟩
        · unfold stepF
          simp only [hd2, ho, hl, hlend]
        · rw [g2, g1]; exact t
      · cases hs

theorem passC_st {s s2 : S} (h : s.st = s2.st) {md : Bool} {β fs : List Nat} (c : MC) : passC md s2 β fs c = passC md s β fs c := by
  cases c <;> simp only [passC, h]
theorem passL_st {s s2 : S} (h : s.st = s2.st) {md : Bool} {β fs : List Nat} : ∀ cs : List MC, passL md s2 β fs cs = passL md s β fs cs
  | [] => rfl
  | c :: cs => by simp only [passL]; rw [passC_st h, passL_st h cs]
theorem passV_st {s s2 : S} (h : s.st = s2.st) {md : Bool} {β fs : List Nat} (v : MV) : passV md s2 β fs v = passV md s β fs v := by
  cases v <;> simp only [passV, passC_st h, passL_st h]
theorem passA_nat {s s2 : S} (h : s.st = s2.st) {md : Bool} {β fs : List Nat} : ∀ xs : List Operand, (∀ x ∈ xs, evO s x = evO s2 x) → passA md s2 β fs xs = passA md s β fs xs
  | [], _ => rfl
  | x :: xs, he => by
    simp only [passA]
    rw [passA_nat h xs fun y hy => he y (List.mem_cons_of_mem _ hy), he x List.mem_cons_self]
    cases evO s2 x <;> simp [passV_st h]
theorem passO_st {s s2 : S} (h : s.st = s2.st) {md : Bool} {β fs : List Nat} : ∀ ids : List Nat, passO md s2 β fs ids = passO md s β fs ids
  | [] => rfl
  | id :: ids => by
    simp only [passO]
    rw [passO_st h ids, h]
    cases look s2.st id with
    | none => rfl
    | some ob => cases ob <;> cases passO md s β fs ids <;> simp [passL_st h]
theorem passF_st {s s2 : S} (h : s.st = s2.st) : ∀ ids : List Nat, passF s2 ids = passF s ids
  | [] => rfl
  | id :: ids => by simp only [passF]; rw [passF_st h ids, h]

theorem vcStep_nat {hs : List (Nat × Hint)} {s s2 : S} {o : Oper} {K : S → Prop} (hc : chainOp (hintOf hs o.dst) o = true) (ha : Al s s2 o.op.operands.toList) (h : vcStep P T hs s o K) :
    vcStep P T hs s2 o fun s2' => ∃ s', K s' ∧ Twin o.dst s s' s2 s2' := by
  have hstep : ∀ (h : match stepF P T (hintOf hs o.dst) s o with
      | none => False
      | some (p, s') => Side p ∧ fS s' K), match stepF P T (hintOf hs o.dst) s2 o with
      | none => False
      | some (p, s2') => Side p ∧ fS s2' fun s2' => ∃ s', K s' ∧ Twin o.dst s s' s2 s2' := fun h => by
    split at h
    · exact h.elim
    · rename_i p s' hq
      obtain ⟨s2', h1, h2⟩ := stepF_nat hc ha hq
      rw [h1]
      rw [fS_eq] at h
      exact ⟨h.1, by rw [fS_eq]; exact ⟨s', h.2, h2⟩⟩
  unfold vcStep at h ⊢
  generalize hh : hintOf hs o.dst = hint at *
  generalize ho : o.op = op at *
  cases hint with
  | none => simp only [conGoal] at h ⊢; exact hstep h
  | some hi =>
    cases hi with
    | con md β cs fs C =>
      cases op with
      | call c =>
        obtain ⟨cal, args, ats⟩ := c
        cases cal with
        | value f =>
          cases f with
          | func f =>
            have hst := ha.st
            have hA : passA md s2 (β ++ cs) fs args.toList = passA md s (β ++ cs) fs args.toList := passA_nat hst _ fun x hx => ha.ev x (by simp [Op.operands, Call.operands]; exact .inr (by simpa using hx))
            simp only [conGoal] at h ⊢
            rw [passF_st hst, passO_st hst, hA]
            split at h
            · rename_i q hq
              split at hq
              · rename_i q1 q2 os ds h1 h2 h3
                obtain rfl := Option.some.inj hq
                try rw [h1, h2, h3]
                simp only
                obtain ⟨g1, g2, g3, g4, g5, g6, g7⟩ := h
                refine ⟨g1, g2, by rw [← ha.m]; exact g3, g4, g5, g6, fun d hd => ?_⟩
                have := g7 d hd
                rw [fS_eq] at this ⊢
                refine ⟨_, this, ?_⟩
                have e : ∀ s : S, conS md ((s.dels fs).dels cs) β ((C ds os).os d) = ⟨s.m, s.n + (((C ds os).os d).length - β.length), s.env, newO md s.n β 0 (((C ds os).os d).drop β.length) ++ updO md s.n β (delL (delL s.st fs) cs) β ((C ds os).os d)⟩ := fun s => rfl
                rw [e s, e s2, ← ha.n, ← hst]
                exact Twin.put ha
              · obtain rfl := Option.some.inj hq; exact h.elim
            · rename_i hq
              split at hq <;> cases hq
          | _ => simp only [conGoal] at h ⊢; exact hstep h
        | _ => simp only [conGoal] at h ⊢; exact hstep h
      | _ => simp only [conGoal] at h ⊢; exact hstep h
    | tre fl g =>
      cases op with
      | call c =>
        obtain ⟨cal, args, ats⟩ := c
        cases cal with
        | value f =>
          cases f with
          | func f =>
            cases fl with
            | true => simp [chainOp, ho] at hc
            | false =>
              have hst := ha.st
              have hA : lend s2 args.toList = lend s args.toList := (lend_alike hst args.toList fun x hx => ha.ev x (by simp [Op.operands, Call.operands]; exact .inr (by simpa using hx))).symm
              simp only [conGoal] at h ⊢
              rw [hA]
              split at h
              · rename_i q hq
                split at hq
                · rename_i p ds h1
                  obtain rfl := Option.some.inj hq
                  try rw [h1]
                  simp only
                  obtain ⟨g1, g2, g3, g4⟩ := h
                  refine ⟨g1, by rw [← ha.m]; exact g2, g3, fun B hB hD => ?_⟩
                  have := g4 B hB (by have h1 : DisO s2 (Any B) := hD; exact (⟨by rw [hst]; exact h1.st⟩ : DisO s (Any B)))
                  rw [fS_eq] at this ⊢
                  refine ⟨_, this, ?_⟩
                  have e : s2.put o.dst (lab true B (g ds)) = S.put ⟨s2.m, s.n, s2.env, s.st⟩ o.dst (lab true B (g ds)) := by rw [hst, ha.n]
                  rw [e]
                  exact Twin.put ha
                · obtain rfl := Option.some.inj hq; exact h.elim
              · rename_i hq
                split at hq <;> cases hq
          | _ => simp only [conGoal] at h ⊢; exact hstep h
        | _ => simp only [conGoal] at h ⊢; exact hstep h
      | _ => simp only [conGoal] at h ⊢; exact hstep h
    | told g =>
      cases op with
      | call c =>
        obtain ⟨cal, args, ats⟩ := c
        cases cal with
        | value f =>
          cases f with
          | func f => simp [chainOp, ho] at hc
          | _ => simp only [conGoal] at h ⊢; exact hstep h
        | _ => simp only [conGoal] at h ⊢; exact hstep h
      | _ => simp only [conGoal] at h ⊢; exact hstep h
    | mark g keep upd ids ob =>
      cases op with
      | call c =>
        obtain ⟨cal, args, ats⟩ := c
        cases cal with
        | value f =>
          cases f with
          | func f => simp [chainOp, ho] at hc
          | _ => simp only [conGoal] at h ⊢; exact hstep h
        | _ => simp only [conGoal] at h ⊢; exact hstep h
      | _ => simp only [conGoal] at h ⊢; exact hstep h
    | _ => simp only [conGoal] at h ⊢; exact hstep h
end Mg
