/- The abstract state logic, part 16: what a piece of code asks for, reckoned. No condition. -/
import Derived.Test.YthflichlfpmenaaGreatMg15
import Derived.Test.YthflichlfpmenaaGreatMg25
namespace Mg
open Go Go.RowKit
set_option linter.unusedVariables false

variable {P : Program} {T : Tab}

def hintOf (hs : List (Nat × Hint)) : Option Nat → Option Hint
  | none => none
  | some d => look hs d

/- FORCING: each state is brought into plain form before it is handed on. -/
def fN (n : Nat) (k : Nat → Prop) : Prop := match n with
  | 0 => k 0
  | n + 1 => k (n + 1)
def fU (v : Value) (k : Value → Prop) : Prop := match v with
  | .int i n => k (.int i n)
  | .bool b => k (.bool b)
  | .string b => k (.string b)
  | v => k v
def fC (c : MC) (k : MC → Prop) : Prop := match c with
  | .dead => k .dead
  | .sc v => fU v fun v => k (.sc v)
  | .nil => k .nil
  | .fz r => k (.fz r)
  | .own r => k (.own r)
  | .ref i o l => fN i fun i => k (.ref i o l)
  | .ptr i r o => fN i fun i => k (.ptr i r o)
  | .fptr r => k (.fptr r)
  | .ag r => k (.ag r)
  | .aptr r => k (.aptr r)
def fCs (cs : List MC) (k : List MC → Prop) : Prop := match cs with
  | [] => k []
  | c :: cs => fC c fun c => fCs cs fun cs => k (c :: cs)
def fV1 (v : MV) (k : MV → Prop) : Prop := match v with
  | .un => k .un
  | .one c => fC c fun c => k (.one c)
  | .agg cs => fCs cs fun cs => k (.agg cs)
  | .tup vs => k (.tup vs)
def fVs (vs : List MV) (k : List MV → Prop) : Prop := match vs with
  | [] => k []
  | v :: vs => fV1 v fun v => fVs vs fun vs => k (v :: vs)
def fV (v : MV) (k : MV → Prop) : Prop := match v with
  | .tup vs => fVs vs fun vs => k (.tup vs)
  | v => fV1 v k
def fOb (o : Ob) (k : Ob → Prop) : Prop := match o with
  | .box cs => fCs cs fun cs => k (.box cs)
  | .arr rows => k (.arr rows)
def fSt (st : List (Nat × Ob)) (k : List (Nat × Ob) → Prop) : Prop := match st with
  | [] => k []
  | (i, o) :: st => fN i fun i => fOb o fun o => fSt st fun st => k ((i, o) :: st)
def fOp (d : Option Nat) (k : Option Nat → Prop) : Prop := match d with
  | none => k none
  | some d => k (some d)
def fEnv (env : List (Nat × MV)) (k : List (Nat × MV) → Prop) : Prop := match env with
  | [] => k []
  | (d, v) :: tl => fN d fun d => fV v fun v => match tl with
    | [] => k [(d, v)]
    | x :: xs => k ((d, v) :: x :: xs)
def fS (s : S) (k : S → Prop) : Prop := match s with
  | ⟨m, n, env, st⟩ => fN m fun m => fN n fun n => fEnv env fun env => fSt st fun st => k ⟨m, n, env, st⟩

theorem fN_eq (n : Nat) (k : Nat → Prop) : fN n k = k n := by cases n <;> rfl
theorem fU_eq (v : Value) (k : Value → Prop) : fU v k = k v := by cases v <;> rfl
theorem fC_eq (c : MC) (k : MC → Prop) : fC c k = k c := by cases c <;> simp [fC, fN_eq, fU_eq]
theorem fCs_eq : ∀ (cs : List MC) (k : List MC → Prop), fCs cs k = k cs
  | [], k => rfl
  | c :: cs, k => by simp [fCs, fC_eq, fCs_eq cs]
theorem fV1_eq (v : MV) (k : MV → Prop) : fV1 v k = k v := by cases v <;> simp [fV1, fC_eq, fCs_eq]
theorem fVs_eq : ∀ (vs : List MV) (k : List MV → Prop), fVs vs k = k vs
  | [], k => rfl
  | v :: vs, k => by simp [fVs, fV1_eq, fVs_eq vs]
theorem fV_eq (v : MV) (k : MV → Prop) : fV v k = k v := by cases v <;> simp [fV, fV1_eq, fVs_eq]
theorem fOb_eq (o : Ob) (k : Ob → Prop) : fOb o k = k o := by cases o <;> simp [fOb, fCs_eq]
theorem fSt_eq : ∀ (st : List (Nat × Ob)) (k : List (Nat × Ob) → Prop), fSt st k = k st
  | [], k => rfl
  | (i, o) :: st, k => by simp [fSt, fN_eq, fOb_eq, fSt_eq st]
theorem fEnv_eq (env : List (Nat × MV)) (k : List (Nat × MV) → Prop) : fEnv env k = k env := by
  cases env with
  | nil => rfl
  | cons x tl =>
    obtain ⟨d, v⟩ := x
    simp only [fEnv, fN_eq, fV_eq]
    cases tl <;> rfl
theorem fS_eq (s : S) (k : S → Prop) : fS s k = k s := by
  obtain ⟨m, n, env, st⟩ := s
  simp only [fS, fN_eq, fEnv_eq, fSt_eq]

/-- A side condition. -/
structure Side (p : Prop) : Prop where
  h : p

/-- What a call asks for that hands objects over. -/
def conGoal (P : Program) (s : S) (o : Oper) (K : S → Prop) : Option Hint → Op → Option Prop
  | some (.con md β cs fs C), .call c => match c.callee with
    | .value (.func f) => match passF s fs, passO md s (β ++ cs) fs (β ++ cs), passA md s (β ++ cs) fs c.args.toList with
      | some q1, some (q2, os), some ds => some (Side q1 ∧ Side q2 ∧ Chk (Oper.dok o s.m && decide ((β ++ cs) ++ fs).Nodup) ∧ Side (Con P f ds os β.length (C ds os).p (C ds os).r (C ds os).os) ∧ Side (∀ d, (C ds os).p d → likeL (os.take β.length) ((C ds os).os d)) ∧ Side (∀ d, (C ds os).p d → fixL md ((C ds os).os d)) ∧
          ∀ d, (C ds os).p d → fS ((conS md ((s.dels fs).dels cs) β ((C ds os).os d)).put o.dst (backV md s.n β ((C ds os).r d))) K)
      | _, _, _ => some False
    | _ => none
  | _, _ => none
theorem conGoal_ok {s : S} {o : Oper} {K : S → Prop} {h : Option Hint} {q : Prop} (hg : conGoal P s o K h o.op = some q) (hq : q) : OpOK P o s K := by
  generalize ho : o.op = op at hg
  unfold conGoal at hg
  split at hg
  · rename_i md β cs fs C c
    split at hg
    · rename_i f hc
      split at hg
      · rename_i q1 q2 os ds h1 h2 h3
        obtain rfl := Option.some.inj hg
        obtain ⟨⟨g1⟩, ⟨g2⟩, ⟨g3⟩, ⟨g4⟩, ⟨g5⟩, ⟨g6⟩, g7⟩ := hq
        simp only [Bool.and_eq_true, decide_eq_true_eq] at g3
        obtain ⟨cc, ca, ct⟩ := c
        subst hc
        exact r_con ho g3.1 g3.2 h1 g1 h2 g2 h3 g4 g5 g6 fun d hd => by have := g7 d hd; rwa [fS_eq] at this
      · obtain rfl := Option.some.inj hg; exact hq.elim
    · cases hg
  · cases hg

def vcStep (P : Program) (T : Tab) (hs : List (Nat × Hint)) (s : S) (o : Oper) (K : S → Prop) : Prop :=
  match conGoal P s o K (hintOf hs o.dst) o.op with
  | some q => q
  | none => match stepF P T (hintOf hs o.dst) s o with
    | none => False
    | some (p, s') => Side p ∧ fS s' K

/-- A guard's slot, said outright. -/
def S.lit (s : S) (all : Array Oper) (g : Nat) (b : Bool) : S := match (all[g]?).bind (·.dst) with
  | some d => s.put (some d) (.one (.sc (.bool b)))
  | none => s
theorem S.lit_lk {s : S} {all : Array Oper} {g : Nat} {b : Bool} (h : guardV all s g = some b) : Lk (S.lit s all g b) s := by
  unfold S.lit
  unfold guardV at h
  obtain ⟨d, hd, hm⟩ := Option.bind_eq_some_iff.1 h
  rw [hd]
  refine ⟨rfl, rfl, rfl, fun t => ?_⟩
  show look ((d, _) :: s.env) t = _
  rw [look_cons]
  split
  · rename_i e
    subst e
    split at hm
    · rename_i b' he
      obtain rfl := Option.some.inj hm
      exact he.symm
    · cases hm
  · rfl

def vcOps (P : Program) (T : Tab) (hs : List (Nat × Hint)) (all : Array Oper) : List Oper → S → (S → Prop) → Prop
  | [], s, K => K s
  | o :: rest, s, K => match o.guard with
    | none => vcStep P T hs s o fun s' => vcOps P T hs all rest s' K
    | some (g, want) => match guardV all s g with
      | none => Chk (guardU all s g) ∧ Chk (Oper.dok o s.m) ∧ fS (s.put o.dst (.tup [])) fun s' => vcOps P T hs all rest s' K
      | some b => (b = want → fS (S.lit s all g want) fun s => vcStep P T hs s o fun s' => vcOps P T hs all rest s' K) ∧
          (b = !want → fS (S.lit s all g !want) fun s => Chk (Oper.dok o s.m) ∧ fS (s.put o.dst (.tup [])) fun s' => vcOps P T hs all rest s' K)

theorem vcStep_ok {hs : List (Nat × Hint)} {s : S} {o : Oper} {K : S → Prop} (hT : TOk P T) (h : vcStep P T hs s o K) : OpOK P o s K := by
  unfold vcStep at h
  split at h
  · rename_i q hg
    exact conGoal_ok hg h
  split at h
  · exact h.elim
  · rename_i p s' hq
    rw [fS_eq] at h
    exact stepF_ok hT hq h.1.h h.2

theorem OpOK.mono {o : Oper} {s : S} {K K' : S → Prop} (h : OpOK P o s K) (hk : ∀ s, K s → K' s) : OpOK P o s K' := fun w0 wr A a w Q X hr k => h w0 wr A a w Q X hr fun s' a' w' h1 h2 => k s' a' w' h1 (hk s' h2)

theorem vcOps_ok {hs : List (Nat × Hint)} {all : Array Oper} (hT : TOk P T) : ∀ (l : List Oper) (s : S) (K : S → Prop), vcOps P T hs all l s K → Seq P all l s K
  | [], s, K, h => h
  | o :: rest, s, K, h => by
    simp only [vcOps] at h
    simp only [Seq]
    cases hg : o.guard with
    | none =>
      rw [hg] at h
      exact (vcStep_ok hT h).mono fun s' h' => vcOps_ok hT rest s' K h'
    | some q =>
      obtain ⟨g, want⟩ := q
      rw [hg] at h
      simp only at h ⊢
      cases hb : guardV all s g with
      | none =>
        rw [hb] at h
        obtain ⟨⟨h1⟩, ⟨h2⟩, h3⟩ := h
        rw [fS_eq] at h3
        exact .inr ⟨h1, h2, vcOps_ok hT rest _ K h3⟩
      | some b =>
        rw [hb] at h
        by_cases hw : b = want
        · have h1 := h.1 hw
          rw [fS_eq] at h1
          refine .inl ⟨b, _, rfl, S.lit_lk (hw ▸ hb), ?_⟩
          rw [if_pos hw]
          exact (vcStep_ok hT h1).mono fun s' h' => vcOps_ok hT rest s' K h'
        · have hw' : b = !want := by cases b <;> cases want <;> simp_all
          have h1 := h.2 hw'
          rw [fS_eq] at h1
          obtain ⟨⟨h1⟩, h2⟩ := h1
          rw [fS_eq] at h2
          refine .inl ⟨b, _, rfl, S.lit_lk (hw' ▸ hb), ?_⟩
          rw [if_neg hw]
          exact ⟨h1, vcOps_ok hT rest _ K h2⟩

/-- The end, reckoned. -/
def endF (T : Tab) (sh : Bool) (fn : Func) (r : MV) (s : S) : Prop :=
  match outR T sh s fn.results.toList r with
  | some (p, os, fs) => Side p ∧ Chk (decide os.Nodup && os.all fun i => !fs.contains i)
  | none => False

theorem endF_ok {sh : Bool} {fn : Func} {r : MV} {s : S} (h : endF T sh fn r s) : Ends T sh fn r s := by
  unfold endF at h
  split at h
  · rename_i p os fs ho
    obtain ⟨h1, ⟨h2⟩⟩ := h
    simp only [Bool.and_eq_true, decide_eq_true_eq, List.all_eq_true, Bool.not_eq_true', List.contains_eq_mem, decide_eq_false_iff_not] at h2
    exact ⟨p, os, fs, ho, h1.h, h2.1, h2.2⟩
  · exact h.elim

def endE (T : Tab) (sh : Bool) (fn : Func) (r : MV) : Exit → S → Prop
  | .normal, s => endF T sh fn r s
  | .ret, s => endF T sh fn r s
  | _, _ => False

end Mg
