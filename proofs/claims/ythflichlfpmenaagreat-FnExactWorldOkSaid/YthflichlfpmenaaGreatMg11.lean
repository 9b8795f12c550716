/- The abstract state logic, part 11: code. No condition. -/
import Derived.Test.YthflichlfpmenaaGreatMg10
namespace Mg
open Go Go.RowKit
set_option linter.unusedVariables false

variable {P : Program} {T : Tab}

def guardV (all : Array Oper) (s : S) (g : Nat) : Option Bool :=
  ((all[g]?).bind (·.dst)).bind fun d => match look s.env d with
    | some (.one (.sc (.bool b))) => some b
    | _ => none

/-- A guard's slot that was skipped. -/
def guardU (all : Array Oper) (s : S) (g : Nat) : Bool :=
  ((all[g]?).bind (·.dst)).any fun d => match look s.env d with
    | some (.tup []) => true
    | _ => false
theorem un_rv {st : Sto} {L : Lay} {w : World} {F : FF} : RV st L w F (.tup []) undef := ⟨#[], rfl, rfl, fun j x hj => by simp at hj⟩
theorem un_bd {n : Nat} : (MV.tup []).bd n := fun v hv => by simp at hv
theorem guardU_ok {w0 : World} {wr : Wr} {A : Nat → Prop} {L : Lay} {F : FF} {s : S} {a : Act} {w : World} (h : Rl w0 wr A L F s a w) {all : Array Oper} {g : Nat} (hg : guardU all s g = true) :
    yielded all a.tmps g = none := by
  unfold guardU at hg
  unfold yielded
  cases hd : (all[g]?).bind (·.dst) with
  | none => rw [hd] at hg; cases hg
  | some d =>
    rw [hd] at hg
    simp only [Option.any_some] at hg
    split at hg
    · rename_i he
      obtain ⟨arr, h1, h2, _⟩ := h.env d _ he
      simp only [Option.bind_some]
      cases ht : a.tmps[d]? with
      | none => rfl
      | some v =>
        simp [ht] at h1
        rw [h1]
    · cases hg

/-- States that read alike in every slot. -/
structure Lk (s' s : S) : Prop where
  m : s'.m = s.m
  n : s'.n = s.n
  st : s'.st = s.st
  env : ∀ t, look s'.env t = look s.env t
theorem Lk.rfl {s : S} : Lk s s := ⟨Eq.refl _, Eq.refl _, Eq.refl _, fun _ => Eq.refl _⟩
theorem Lk.rl {w0 : World} {wr : Wr} {A : Nat → Prop} {L : Lay} {F : FF} {s s' : S} {a : Act} {w : World} (hl : Lk s' s) (h : Rl w0 wr A L F s a w) : Rl w0 wr A L F s' a w :=
  h.weaken ⟨hl.m, fun t v hv => by
    rw [hl.env] at hv
    exact ⟨hv, by rw [hl.n]; exact h.ben t v hv⟩, fun id o ho => by
    rw [hl.st] at ho
    exact ⟨ho, by rw [hl.n]; exact h.bst id o ho⟩⟩ fun i hi => by rw [hl.n]; exact (h.pin i hi).2

/-- The operations of a region, one behind the other. -/
def Seq (P : Program) (all : Array Oper) : List Oper → S → (S → Prop) → Prop
  | [], s, K => K s
  | o :: rest, s, K => match o.guard with
    | none => OpOK P o s fun s' => Seq P all rest s' K
    | some (g, want) => (∃ b s1, guardV all s g = some b ∧ Lk s1 s ∧ if b = want then OpOK P o s1 (fun s' => Seq P all rest s' K) else Oper.dok o s1.m = true ∧ Seq P all rest (s1.put o.dst (.tup [])) K) ∨
        (guardU all s g = true ∧ Oper.dok o s.m = true ∧ Seq P all rest (s.put o.dst (.tup [])) K)

theorem guardV_ok {w0 : World} {wr : Wr} {A : Nat → Prop} {L : Lay} {F : FF} {s : S} {a : Act} {w : World} (h : Rl w0 wr A L F s a w) {all : Array Oper} {g : Nat} {b : Bool} (hg : guardV all s g = some b) :
    yielded all a.tmps g = some b := by
  unfold guardV at hg
  obtain ⟨d, hd, hm⟩ := Option.bind_eq_some_iff.1 hg
  split at hm
  · rename_i b' he
    obtain rfl := Option.some.inj hm
    obtain ⟨h1, _⟩ := h.env d _ he
    have h1 : a.tmps.getD d undef = .bool b' := h1
    unfold yielded
    rw [hd]
    simp only [Option.bind_some]
    cases ht : a.tmps[d]? with
    | none => simp [ht, undef] at h1
    | some v =>
      simp [ht] at h1
      rw [h1]
  · cases hm

theorem seq_ok {all : Array Oper} {Q : Exit → Act → World → Prop} {w0 : World} {wr : Wr} {A : Nat → Prop} {K : S → Prop} (hQ : ∀ s a w, Rel w0 wr A s a w → K s → Q .normal a w) :
    ∀ (l : List Oper) (s : S) (a : Act) (w : World), Seq P all l s K → Rel w0 wr A s a w → wpList P all Q l a w
  | [], s, a, w, h, hr => hQ s a w hr h
  | o :: rest, s, a, w, h, hr => by
    have ih := fun s a w h hr => seq_ok (all := all) hQ rest s a w h hr
    unfold wpList
    simp only [Seq] at h
    cases hg : o.guard with
    | none =>
      rw [hg] at h
      have hw : Region.wanted o (yielded all a.tmps) = true := by simp [Region.wanted, hg]
      rw [if_pos hw]
      exact .inl (h w0 wr A a w Q _ hr fun s' a' w' hr' hk => ih s' a' w' hk hr')
    | some q =>
      obtain ⟨g, want⟩ := q
      rw [hg] at h
      obtain ⟨L, F, hR⟩ := hr
      rcases h with ⟨b, s1, hb, hl, h⟩ | ⟨hu, hd, h⟩
      rotate_left
      · have hw : Region.wanted o (yielded all a.tmps) = false := by simp [Region.wanted, hg, guardU_ok hR hu]
        rw [if_neg (by simp [hw])]
        exact ih _ _ _ h ⟨L, F, hR.put (Oper.dok_spec hd) un_rv un_bd⟩
      have hy := guardV_ok hR hb
      have hR := hl.rl hR
      by_cases hbw : b = want
      · rw [if_pos hbw] at h
        have hw : Region.wanted o (yielded all a.tmps) = true := by simp [Region.wanted, hg, hy, hbw]
        rw [if_pos hw]
        exact .inl (h w0 wr A a w Q _ ⟨L, F, hR⟩ fun s' a' w' hr' hk => ih s' a' w' hk hr')
      · rw [if_neg hbw] at h
        have hw : Region.wanted o (yielded all a.tmps) = false := by simp [Region.wanted, hg, hy, hbw]
        rw [if_neg (by simp [hw])]
        exact ih _ _ _ h.2 ⟨L, F, hR.put (Oper.dok_spec h.1) un_rv un_bd⟩

/-- What code does from a state. -/
def W (k : Nat) (P : Program) (c : Code) (s : S) (Q : Exit → S → Prop) : Prop :=
  ∀ (w0 : World) (wr : Wr) (A : Nat → Prop) (a : Act) (w : World), wr.k = k → Rel w0 wr A s a w → c.wp P (fun x a' w' => ∃ s', Rel w0 wr A s' a' w' ∧ Q x s') a w

theorem W.mono {k : Nat} {c : Code} {s : S} {Q Q' : Exit → S → Prop} (h : W k P c s Q) (hq : ∀ e s, Q e s → Q' e s) : W k P c s Q' := fun w0 wr A a w hk hr =>
  wp_mono (h w0 wr A a w hk hr) fun e a w ⟨s', h1, h2⟩ => ⟨s', h1, hq e s' h2⟩

theorem W.weaken {k : Nat} {c : Code} {s s' : S} {Q : Exit → S → Prop} (hs : Sub s' s) (hn : k ≤ s'.n) (h : W k P c s' Q) : W k P c s Q := fun w0 wr A a w hk ⟨L, F, hr⟩ =>
  h w0 wr A a w hk ⟨L, F, hr.weaken hs fun i hi => Nat.lt_of_lt_of_le (hk ▸ hi) hn⟩

theorem W.skip {k : Nat} {s : S} {Q : Exit → S → Prop} (h : Q .normal s) : W k P .skip s Q := fun w0 wr A a w hk hr => wp_skip ⟨s, hr, h⟩
theorem W.exit {k : Nat} {s : S} {Q : Exit → S → Prop} {id : Nat} (h : Q (.exit id) s) : W k P (.exit id) s Q := fun w0 wr A a w hk hr => wp_exit ⟨s, hr, h⟩
theorem W.ret {k : Nat} {s : S} {Q : Exit → S → Prop} (h : Q .ret s) : W k P .ret s Q := fun w0 wr A a w hk hr => wp_ret ⟨s, hr, h⟩

/-- Behind the first: the next, or what the exit says. -/
def thn (K : S → Prop) (Q : Exit → S → Prop) : Exit → S → Prop
  | .normal, s => K s
  | e, s => Q e s

theorem W.seq {k : Nat} {x y : Code} {s : S} {Q : Exit → S → Prop} (h : ∀ K : S → Prop, (∀ s, W k P y s Q → K s) → W k P x s (thn K Q)) : W k P (.seq x y) s Q := fun w0 wr A a w hk hr => by
  refine wp_seq (wp_mono (h _ (fun _ h => h) w0 wr A a w hk hr) fun e a w ⟨s', h1, h2⟩ => ?_)
  cases e with
  | normal => exact h2 w0 wr A a w hk h1
  | _ => exact ⟨s', h1, h2⟩

def blk (id : Nat) (Q : Exit → S → Prop) : Exit → S → Prop
  | .exit id', s => if id' = id then Q .normal s else Q (.exit id') s
  | e, s => Q e s

theorem W.block {k : Nat} {id : Nat} {c : Code} {s : S} {Q : Exit → S → Prop} (h : W k P c s (blk id Q)) : W k P (.block id c) s Q := fun w0 wr A a w hk hr => by
  refine wp_block (wp_mono (h w0 wr A a w hk hr) fun e a w ⟨s', h1, h2⟩ => ?_)
  cases e with
  | exit id' =>
    simp only [Exit.inBlock, blk] at h2 ⊢
    split
    · rename_i he; rw [if_pos he] at h2; exact ⟨s', h1, h2⟩
    · rename_i he; rw [if_neg he] at h2; exact ⟨s', h1, h2⟩
  | _ => exact ⟨s', h1, h2⟩

theorem W.cond {k : Nat} {c : Operand} {x y : Code} {s : S} {Q : Exit → S → Prop} {t : Bool} (hc : evO s c = some (.one (.sc (.bool t)))) (h : W k P (if t = true then x else y) s Q) : W k P (.cond c x y) s Q :=
  fun w0 wr A a w hk ⟨L, F, hr⟩ => by
    obtain ⟨⟨h1, _⟩, _⟩ := evO_ok hr hc
    exact wp_cond h1 (h w0 wr A a w hk ⟨L, F, hr⟩)

theorem W.region {k : Nat} {id : Nat} {ops : Array Oper} {s : S} {Q : Exit → S → Prop} (h : Seq P ops ops.toList s fun s' => Q .normal s') : W k P (.region id ops false) s Q := fun w0 wr A a w hk hr =>
  wp_region_list (seq_ok (fun s' a' w' h1 h2 => ⟨s', h1, h2⟩) ops.toList s a w h hr)

theorem exists_least (p : Nat → Prop) (h : ∃ n, p n) : ∃ n, p n ∧ ∀ m, p m → n ≤ m := by
  obtain ⟨n, hn⟩ := h
  induction n using Nat.strongRecOn with
  | _ n ih =>
    by_cases hm : ∃ m, m < n ∧ p m
    · obtain ⟨m, h1, h2⟩ := hm; exact ih m h1 h2
    · exact ⟨n, hn, fun m hp => by
        by_cases hlt : m < n
        · exact absurd ⟨m, hlt, hp⟩ hm
        · omega⟩

/-- A loop: what holds at each round's head, with a number that sinks. -/
theorem W.loop {k : Nat} {c : Code} {s : S} {Q : Exit → S → Prop} (I : Nat → S → Prop) (n : Nat) (h0 : I n s) (h : ∀ n s, I n s → W k P c s (thn (fun s' => ∃ m, m < n ∧ I m s') Q)) : W k P (.loop c) s Q := fun w0 wr A a w hk hr => by
  classical
  let p : Act → World → Nat → Prop := fun a w n => ∃ s, Rel w0 wr A s a w ∧ I n s
  let μ : Act → World → Nat := fun a w => if hp : ∃ n, p a w n then Classical.choose (exists_least (p a w) hp) else 0
  have hμ : ∀ a w (hp : ∃ n, p a w n), p a w (μ a w) ∧ ∀ m, p a w m → μ a w ≤ m := fun a w hp => by
    have : μ a w = Classical.choose (exists_least (p a w) hp) := dif_pos hp
    rw [this]
    exact Classical.choose_spec (exists_least (p a w) hp)
  refine wp_loop (fun a w => ∃ n, p a w n) μ ⟨n, s, hr, h0⟩ fun a w hp => ?_
  obtain ⟨⟨s', hr', hi⟩, _⟩ := hμ a w hp
  refine wp_mono (h _ s' hi w0 wr A a w hk hr') fun e a' w' ⟨s'', h1, h2⟩ => ?_
  cases e with
  | normal =>
    obtain ⟨m, hm, him⟩ := h2
    have hp' : ∃ n, p a' w' n := ⟨m, s'', h1, him⟩
    exact ⟨hp', Nat.lt_of_le_of_lt ((hμ a' w' hp').2 m ⟨s'', h1, him⟩) hm⟩
  | _ => exact ⟨s'', h1, h2⟩

end Mg
