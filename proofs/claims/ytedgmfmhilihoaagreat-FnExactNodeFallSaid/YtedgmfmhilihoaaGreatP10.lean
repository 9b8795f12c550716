/- Parts of the abstract state logic and of the walks, one behind the other: Mg30, Mg31. No condition. -/
import Derived.Test.YtedgmfmhilihoaaGreatP9
/- The abstract state logic, part 30: a step, from states that are alike. No condition. -/
namespace Mg
open Go Go.RowKit
set_option linter.unusedVariables false

variable {P : Program} {T : Tab}

structure Al (s s2 : S) (l : List Operand) : Prop where
  m : s.m = s2.m
  n : s.n = s2.n
  st : s.st = s2.st
  ev : ∀ x ∈ l, evO s x = evO s2 x
theorem Al.alike {s s2 : S} {l : List Operand} (h : Al s s2 l) : Alike s s2 l := ⟨h.m, h.st, h.ev⟩

/-- Two states, one step further, alike. -/
structure Twin (dst : Option Nat) (s s' s2 s2' : S) : Prop where
  m : s'.m = s2'.m
  n : s'.n = s2'.n
  st : s'.st = s2'.st
  env : ∃ e : List (Nat × MV), (∀ q ∈ e, dst = some q.1) ∧ s'.env = e ++ s.env ∧ s2'.env = e ++ s2.env

theorem Twin.put {s s2 : S} {l : List Operand} (h : Al s s2 l) {n : Nat} {st : List (Nat × Ob)} {dst : Option Nat} {v : MV} :
    Twin dst s (S.put ⟨s.m, n, s.env, st⟩ dst v) s2 (S.put ⟨s2.m, n, s2.env, st⟩ dst v) := by
  cases dst with
  | none => exact ⟨h.m, rfl, rfl, [], ⟨fun q hq => (by cases hq), rfl, rfl⟩⟩
  | some d => exact ⟨h.m, rfl, rfl, [(d, v)], ⟨fun q hq => (by simp at hq; rw [hq]), rfl, rfl⟩⟩

theorem adC_nat {s s2 : S} (hm : s.m = s2.m) (hn : s.n = s2.n) (hst : s.st = s2.st) : ∀ cs : List MC, ∃ n st, adC s cs = ((adC s cs).1, ⟨s.m, n, s.env, st⟩) ∧ adC s2 cs = ((adC s cs).1, ⟨s2.m, n, s2.env, st⟩) := by
  intro cs
  induction cs generalizing s s2 with
  | nil => exact ⟨s.n, s.st, rfl, by rw [hn, hst]; rfl⟩
  | cons c cs ih =>
    have base : ∀ (c : MC), (∀ s : S, adC s (c :: cs) = (c :: (adC s cs).1, (adC s cs).2)) → ∃ n st, adC s (c :: cs) = ((adC s (c :: cs)).1, ⟨s.m, n, s.env, st⟩) ∧ adC s2 (c :: cs) = ((adC s (c :: cs)).1, ⟨s2.m, n, s2.env, st⟩) := fun c he => by
      obtain ⟨n, st, h1, h2⟩ := ih hm hn hst
      refine ⟨n, st, ?_, ?_⟩
      · rw [he, h1]
      · rw [he s2, he s, h2]
    cases c with
    | own rows =>
      obtain ⟨n, st, h1, h2⟩ := ih (s := s.app rows s.st) (s2 := s2.app rows s2.st) hm (by simp [S.app, hn]) (by simp [S.app, hn, hst])
      refine ⟨n, st, ?_, ?_⟩
      · simp only [adC]; rw [h1]; rfl
      · simp only [adC]; rw [h2, hn]; rfl
    | _ => exact base _ fun s => rfl
theorem adV1_nat {s s2 : S} (hm : s.m = s2.m) (hn : s.n = s2.n) (hst : s.st = s2.st) (v : MV) : ∃ n st, adV1 s v = ((adV1 s v).1, ⟨s.m, n, s.env, st⟩) ∧ adV1 s2 v = ((adV1 s v).1, ⟨s2.m, n, s2.env, st⟩) := by
  have un : ∃ n st, ((MV.un, s) : MV × S) = (MV.un, ⟨s.m, n, s.env, st⟩) ∧ ((MV.un, s2) : MV × S) = (MV.un, ⟨s2.m, n, s2.env, st⟩) := ⟨s.n, s.st, rfl, by rw [hn, hst]⟩
  cases v with
  | one c =>
    obtain ⟨n, st, h1, h2⟩ := adC_nat hm hn hst [c]
    refine ⟨n, st, ?_, ?_⟩
    · simp only [adV1]; rw [h1]; cases (adC s [c]).1 <;> rfl
    · simp only [adV1]; rw [h2, h1]; cases (adC s [c]).1 <;> rfl
  | agg cs =>
    obtain ⟨n, st, h1, h2⟩ := adC_nat hm hn hst cs
    refine ⟨n, st, ?_, ?_⟩
    · simp only [adV1]; rw [h1]
    · simp only [adV1]; rw [h2]
  | un => exact un
  | tup _ => exact un
theorem adT_nat {s s2 : S} (hm : s.m = s2.m) (hn : s.n = s2.n) (hst : s.st = s2.st) : ∀ vs : List MV, ∃ n st, adT s vs = ((adT s vs).1, ⟨s.m, n, s.env, st⟩) ∧ adT s2 vs = ((adT s vs).1, ⟨s2.m, n, s2.env, st⟩) := by
  intro vs
  induction vs generalizing s s2 with
  | nil => exact ⟨s.n, s.st, rfl, by rw [hn, hst]; rfl⟩
  | cons v vs ih =>
    obtain ⟨n, st, h1, h2⟩ := adV1_nat hm hn hst v
    obtain ⟨n', st', h3, h4⟩ := ih (s := ⟨s.m, n, s.env, st⟩) (s2 := ⟨s2.m, n, s2.env, st⟩) hm rfl rfl
    refine ⟨n', st', ?_, ?_⟩
    · simp only [adT]; rw [h1]; simp only; rw [h3]
    · simp only [adT]; rw [h2, h1]; simp only; rw [h4]
theorem adV_nat {s s2 : S} (hm : s.m = s2.m) (hn : s.n = s2.n) (hst : s.st = s2.st) (v : MV) : ∃ n st, adV s v = ((adV s v).1, ⟨s.m, n, s.env, st⟩) ∧ adV s2 v = ((adV s v).1, ⟨s2.m, n, s2.env, st⟩) := by
  cases v with
  | tup vs =>
    obtain ⟨n, st, h1, h2⟩ := adT_nat hm hn hst vs
    refine ⟨n, st, ?_, ?_⟩
    · simp only [adV]; rw [h1]
    · simp only [adV]; rw [h2]
  | un => exact adV1_nat hm hn hst .un
  | one c => exact adV1_nat hm hn hst (.one c)
  | agg cs => exact adV1_nat hm hn hst (.agg cs)

def chainOp (h : Option Hint) (o : Oper) : Bool := o.guard.isNone && match o.op with
  | .store _ _ _ => true
  | .alloc _ => true
  | .box _ _ => true
  | .call c => match c.callee with
    | .value (.func _) => match h with
      | some (.tre true _) => false
      | some (.told _) => false
      | some (.mark _ _ _ _ _) => false
      | _ => true
    | .builtin .append => match h with
      | some (.res _) => false
      | _ => true
    | _ => false
  | _ => false

theorem rowsOf_st {s s2 : S} (h : s.st = s2.st) (c : MC) : rowsOf s2 c = rowsOf s c := by
  cases c <;> simp only [rowsOf, h]
theorem baseq_st {s s2 : S} (h : s.st = s2.st) (c : MC) : base? s2 c = base? s c := by
  cases c <;> simp only [base?, h]

theorem stepF_nat {h : Option Hint} {s s2 s' : S} {o : Oper} {p : Prop} (hc : chainOp h o = true) (ha : Al s s2 o.op.operands.toList) (hs : stepF P T h s o = some (p, s')) :
    ∃ s2', stepF P T h s2 o = some (p, s2') ∧ Twin o.dst s s' s2 s2' := by
  simp only [chainOp, Bool.and_eq_true] at hc
  obtain ⟨_, hc⟩ := hc
  unfold stepF at hs
  split at hs
  · cases hs
  rename_i hd
  have hd2 : Oper.dok o s2.m = true := by rw [← ha.m]; exact hd
  cases ho : o.op <;> rw [ho] at hc hs <;> try (simp at hc; done)
  case store t x y =>
    simp only at hs
    split at hs
    · rename_i i id r f cs hdst ht hx hy
      split at hs
      · rename_i ob hlk
        obtain ⟨q, hq, he⟩ := Option.map_eq_some_iff.1 hs
        obtain ⟨rfl, rfl⟩ := Prod.mk.inj he
        have e1 : evO s2 x = evO s x := (ha.ev x (by rw [ho]; simp [Op.operands])).symm
        have e2 : evO s2 y = evO s y := (ha.ev y (by rw [ho]; simp [Op.operands])).symm
        refine ⟨s2.set id q.2, ?_, ⟨ha.m, ha.n, by simp only [S.set, ha.st], [], ⟨fun q hq => (by cases hq), rfl, rfl⟩⟩⟩
        unfold stepF
        simp only [hd2, ho, hdst, ht, e1, e2, hx, hy, ← ha.st, hlk, hq, Option.map_some]
      · cases hs
    · cases hs
  case alloc t =>
    simp only at hs
    split at hs
    · rename_i i ht
      obtain ⟨rfl, rfl⟩ := pj hs
      refine ⟨_, ?_, Twin.put ha (n := s.n + 1) (st := (s.n, .box (i.z.map ZC.mc)) :: s.st) (v := .one (.ptr s.n 0 0))⟩
      unfold stepF
      simp only [hd2, ho, ht, S.new, ha.n, ha.st]
    · cases hs
  case box t x =>
    simp only at hs
    split at hs
    · rename_i cs hx
      obtain ⟨rfl, rfl⟩ := pj hs
      have e1 : evO s2 x = evO s x := (ha.ev x (by rw [ho]; simp [Op.operands])).symm
      refine ⟨_, ?_, Twin.put ha (n := s.n + 1) (st := (s.n, .box cs) :: s.st) (v := .one (.ptr s.n 0 0))⟩
      unfold stepF
      simp only [hd2, ho, e1, hx, S.new, ha.n, ha.st]
    · cases hs
  case call c =>
    obtain ⟨cal, args, ats⟩ := c
    have hmem : ∀ x ∈ args.toList, x ∈ o.op.operands.toList := fun x hx => by
      rw [ho]; cases cal <;> simp [Op.operands, Call.operands] <;> first | exact .inr (by simpa using hx) | simpa using hx
    cases cal with
    | invoke r m => simp at hc
    | builtin b =>
      cases b <;> try (simp at hc; done)
      simp only at hs
      have key : stepAp T s o args.toList ats.toList = some (p, s') → ∃ s2', stepAp T s2 o args.toList ats.toList = some (p, s2') ∧ Twin o.dst s s' s2 s2' := fun hs => by
        unfold stepAp at hs
        split at hs
        · rename_i x y t t2 hargs hats
          split at hs
          · rename_i i i2 c d ht ht2 hx hy
            split at hs
            · rename_i e e2 hk hk2
              split at hs
              · rename_i ie rows st rows2 he hb hr
                split at hs
                · rename_i hee
                  obtain ⟨rfl, rfl⟩ := pj hs
                  have e1 : evO s2 x = evO s x := (ha.ev x (hmem x (by rw [hargs]; simp))).symm
                  have e2 : evO s2 y = evO s y := (ha.ev y (hmem y (by rw [hargs]; simp))).symm
                  refine ⟨_, ?_, Twin.put ha (n := s.n + 1) (st := (s.n, .arr (rows ++ rows2)) :: st) (v := .one (.ref s.n 0 (rows.length + rows2.length)))⟩
                  simp only [stepAp, hargs, hats, ht, ht2, e1, e2, hx, hy, hk, hk2, he, baseq_st ha.st, rowsOf_st ha.st, hb, hr]
                  rw [if_pos hee]
                  simp only [S.app, ha.n]
                · cases hs
              · cases hs
            · cases hs
          · cases hs
        · cases hs
      split at hs
      · rename_i r d hdst
        simp at hc
      · rename_i hno
        obtain ⟨s2', h1, h2⟩ := key hs
        refine ⟨s2', ?_, h2⟩
        unfold stepF
        simp only [hd2, ho]
        exact h1
    | value f =>
      cases f <;> try (simp at hc; done)
      rename_i f
      simp only at hs
      have hl : lend s2 args.toList = lend s args.toList := (lend_alike ha.st args.toList fun x hx => ha.ev x (hmem x hx)).symm
      split at hs
      · rename_i p' ds r hlend
        obtain ⟨rfl, rfl⟩ := pj hs
        obtain ⟨n, st, g1, g2⟩ := adV_nat ha.m ha.n ha.st r
        have t := Twin.put ha (n := n) (st := st) (dst := o.dst) (v := (adV s r).1)
        refine ⟨(adV s2 r).2.put o.dst (adV s2 r).1, ?_, ?_⟩
        · unfold stepF
          simp only [hd2, ho, hl, hlend]
        · rw [g2, g1]; exact t
      · rename_i p' ds g hlend
        obtain ⟨rfl, rfl⟩ := pj hs
        obtain ⟨n, st, g1, g2⟩ := adV_nat ha.m ha.n ha.st (g ds)
        have t := Twin.put ha (n := n) (st := st) (dst := o.dst) (v := (adV s (g ds)).1)
        refine ⟨(adV s2 (g ds)).2.put o.dst (adV s2 (g ds)).1, ?_, ?_⟩
        · unfold stepF
          simp only [hd2, ho, hl, hlend]
        · rw [g2, g1]; exact t
      · cases hs

theorem passC_st {s s2 : S} (h : s.st = s2.st) {md : Bool} {β fs : List Nat} (c : MC) : passC md s2 β fs c = passC md s β fs c := by
  cases c <;> simp only [passC, h]
theorem passL_st {s s2 : S} (h : s.st = s2.st) {md : Bool} {β fs : List Nat} : ∀ cs : List MC, passL md s2 β fs cs = passL md s β fs cs
  | [] => rfl
  | c :: cs => by simp only [passL]; rw [passC_st h, passL_st h cs]
theorem passV_st {s s2 : S} (h : s.st = s2.st) {md : Bool} {β fs : List Nat} (v : MV) : passV md s2 β fs v = passV md s β fs v := by
  cases v <;> simp only [passV, passC_st h, passL_st h]
theorem passA_nat {s s2 : S} (h : s.st = s2.st) {md : Bool} {β fs : List Nat} : ∀ xs : List Operand, (∀ x ∈ xs, evO s x = evO s2 x) → passA md s2 β fs xs = passA md s β fs xs
  | [], _ => rfl
  | x :: xs, he => by
    simp only [passA]
    rw [passA_nat h xs fun y hy => he y (List.mem_cons_of_mem _ hy), he x List.mem_cons_self]
    cases evO s2 x <;> simp [passV_st h]
theorem passO_st {s s2 : S} (h : s.st = s2.st) {md : Bool} {β fs : List Nat} : ∀ ids : List Nat, passO md s2 β fs ids = passO md s β fs ids
  | [] => rfl
  | id :: ids => by
    simp only [passO]
    rw [passO_st h ids, h]
    cases look s2.st id with
    | none => rfl
    | some ob => cases ob <;> cases passO md s β fs ids <;> simp [passL_st h]
theorem passF_st {s s2 : S} (h : s.st = s2.st) : ∀ ids : List Nat, passF s2 ids = passF s ids
  | [] => rfl
  | id :: ids => by simp only [passF]; rw [passF_st h ids, h]

theorem vcStep_nat {hs : List (Nat × Hint)} {s s2 : S} {o : Oper} {K : S → Prop} (hc : chainOp (hintOf hs o.dst) o = true) (ha : Al s s2 o.op.operands.toList) (h : vcStep P T hs s o K) :
    vcStep P T hs s2 o fun s2' => ∃ s', K s' ∧ Twin o.dst s s' s2 s2' := by
  have hstep : ∀ (h : match stepF P T (hintOf hs o.dst) s o with
      | none => False
      | some (p, s') => Side p ∧ fS s' K), match stepF P T (hintOf hs o.dst) s2 o with
      | none => False
      | some (p, s2') => Side p ∧ fS s2' fun s2' => ∃ s', K s' ∧ Twin o.dst s s' s2 s2' := fun h => by
    split at h
    · exact h.elim
    · rename_i p s' hq
      obtain ⟨s2', h1, h2⟩ := stepF_nat hc ha hq
      rw [h1]
      rw [fS_eq] at h
      exact ⟨h.1, by rw [fS_eq]; exact ⟨s', h.2, h2⟩⟩
  unfold vcStep at h ⊢
  generalize hh : hintOf hs o.dst = hint at *
  generalize ho : o.op = op at *
  cases hint with
  | none => simp only [conGoal] at h ⊢; exact hstep h
  | some hi =>
    cases hi with
    | con md β cs fs C =>
      cases op with
      | call c =>
        obtain ⟨cal, args, ats⟩ := c
        cases cal with
        | value f =>
          cases f with
          | func f =>
            have hst := ha.st
            have hA : passA md s2 (β ++ cs) fs args.toList = passA md s (β ++ cs) fs args.toList := passA_nat hst _ fun x hx => ha.ev x (by simp [Op.operands, Call.operands]; exact .inr (by simpa using hx))
            simp only [conGoal] at h ⊢
            rw [passF_st hst, passO_st hst, hA]
            split at h
            · rename_i q hq
              split at hq
              · rename_i q1 q2 os ds h1 h2 h3
                obtain rfl := Option.some.inj hq
                try rw [h1, h2, h3]
                simp only
                obtain ⟨g1, g2, g3, g4, g5, g6, g7⟩ := h
                refine ⟨g1, g2, by rw [← ha.m]; exact g3, g4, g5, g6, fun d hd => ?_⟩
                have := g7 d hd
                rw [fS_eq] at this ⊢
                refine ⟨_, this, ?_⟩
                have e : ∀ s : S, conS md ((s.dels fs).dels cs) β ((C ds os).os d) = ⟨s.m, s.n + (((C ds os).os d).length - β.length), s.env, newO md s.n β 0 (((C ds os).os d).drop β.length) ++ updO md s.n β (delL (delL s.st fs) cs) β ((C ds os).os d)⟩ := fun s => rfl
                rw [e s, e s2, ← ha.n, ← hst]
                exact Twin.put ha
              · obtain rfl := Option.some.inj hq; exact h.elim
            · rename_i hq
              split at hq <;> cases hq
          | _ => simp only [conGoal] at h ⊢; exact hstep h
        | _ => simp only [conGoal] at h ⊢; exact hstep h
      | _ => simp only [conGoal] at h ⊢; exact hstep h
    | tre fl g =>
      cases op with
      | call c =>
        obtain ⟨cal, args, ats⟩ := c
        cases cal with
        | value f =>
          cases f with
          | func f =>
            cases fl with
            | true => simp [chainOp, ho] at hc
            | false =>
              have hst := ha.st
              have hA : lend s2 args.toList = lend s args.toList := (lend_alike hst args.toList fun x hx => ha.ev x (by simp [Op.operands, Call.operands]; exact .inr (by simpa using hx))).symm
              simp only [conGoal] at h ⊢
              rw [hA]
              split at h
              · rename_i q hq
                split at hq
                · rename_i p ds h1
                  obtain rfl := Option.some.inj hq
                  try rw [h1]
                  simp only
                  obtain ⟨g1, g2, g3, g4⟩ := h
                  refine ⟨g1, by rw [← ha.m]; exact g2, g3, fun B hB hD => ?_⟩
                  have := g4 B hB (by have h1 : DisO s2 (Any B) := hD; exact (⟨by rw [hst]; exact h1.st⟩ : DisO s (Any B)))
                  rw [fS_eq] at this ⊢
                  refine ⟨_, this, ?_⟩
                  have e : s2.put o.dst (lab true B (g ds)) = S.put ⟨s2.m, s.n, s2.env, s.st⟩ o.dst (lab true B (g ds)) := by rw [hst, ha.n]
                  rw [e]
                  exact Twin.put ha
                · obtain rfl := Option.some.inj hq; exact h.elim
              · rename_i hq
                split at hq <;> cases hq
          | _ => simp only [conGoal] at h ⊢; exact hstep h
        | _ => simp only [conGoal] at h ⊢; exact hstep h
      | _ => simp only [conGoal] at h ⊢; exact hstep h
    | told g =>
      cases op with
      | call c =>
        obtain ⟨cal, args, ats⟩ := c
        cases cal with
        | value f =>
          cases f with
          | func f => simp [chainOp, ho] at hc
          | _ => simp only [conGoal] at h ⊢; exact hstep h
        | _ => simp only [conGoal] at h ⊢; exact hstep h
      | _ => simp only [conGoal] at h ⊢; exact hstep h
    | mark g keep upd ids ob =>
      cases op with
      | call c =>
        obtain ⟨cal, args, ats⟩ := c
        cases cal with
        | value f =>
          cases f with
          | func f => simp [chainOp, ho] at hc
          | _ => simp only [conGoal] at h ⊢; exact hstep h
        | _ => simp only [conGoal] at h ⊢; exact hstep h
      | _ => simp only [conGoal] at h ⊢; exact hstep h
    | _ => simp only [conGoal] at h ⊢; exact hstep h
end Mg

/- The abstract state logic, part 31: drawn regions whose readings float. No condition. -/
namespace Mg
open Go Go.RowKit
set_option linter.unusedVariables false

variable {P : Program} {T : Tab}

def opAt : List Oper → Nat → Option Oper
  | o :: _, 0 => some o
  | _ :: l, n + 1 => opAt l n
  | [], _ => none
theorem opAt_get : ∀ (l : List Oper) (i : Nat), opAt l i = l[i]?
  | [], i => by simp [opAt]
  | o :: l, 0 => by simp [opAt]
  | o :: l, n + 1 => by simp [opAt, opAt_get l n]
theorem opAt_arr (ops : Array Oper) (i : Nat) : opAt ops.toList i = ops[i]? := by rw [opAt_get]; simp

def stay (P : Program) (T : Tab) (hs : List (Nat × Hint)) (s : S) (o : Oper) (v : MV) : Prop := match o.guard with
  | none => match stepF P T (hintOf hs o.dst) s o with
    | some (p, s1) => Side p ∧ Side (s1.env.head?.map (·.2) = some v)
    | none => False
  | some _ => False
def stays (P : Program) (T : Tab) (hs : List (Nat × Hint)) (all : Array Oper) : List (Nat × MV) → S → Prop
  | [], _ => True
  | (i, v) :: l, s => (match opAt all.toList i with
    | some o => stay P T hs s o v
    | none => False) ∧ stays P T hs all l s
/-- Does an operation float? Those of fc keep their place. -/
def flo (hs : List (Nat × Hint)) (fc : List Nat) (i : Nat) (o : Oper) : Bool := quiet (hintOf hs o.dst) o && !fc.contains i
def vcF (P : Program) (T : Tab) (hs : List (Nat × Hint)) (all : Array Oper) (fc : List Nat) : List Nat → List (Nat × MV) → S → (S → Prop) → Prop
  | [], _, s, K => K s
  | i :: r, pd, s, K => match opAt all.toList i with
    | none => False
    | some o => match flo hs fc i o with
      | true => vcOps P T hs all [o] s fun s' => match s'.env with
        | (_, v) :: _ => vcF P T hs all fc r (pd ++ [(i, v)]) s' K
        | [] => False
      | false => vcStep P T hs s o fun s' => stays P T hs all (pd.filter fun q => !waits all i q.1) s' ∧ vcF P T hs all fc r (pd.filter fun q => !waits all i q.1) s' K

def isQ (hs : List (Nat × Hint)) (ops : Array Oper) (fc : List Nat) (i : Nat) : Bool := (ops[i]?).any fun o => flo hs fc i o
def ordOk (hs : List (Nat × Hint)) (ops : Array Oper) (fc : List Nat) : List Nat → List Nat → Bool
  | _, [] => true
  | pre, i :: r => Nat.blt i ops.size && ((List.range ops.size).all fun j => !waits ops i j || pre.contains j) && !pre.contains i && (isQ hs ops fc i || r.all fun x => (i :: r).any fun y => waits ops x y) && ordOk hs ops fc (i :: pre) r
def gchk (hs : List (Nat × Hint)) (ops : Array Oper) (fc ord : List Nat) : Bool :=
  ((List.range ops.size).all fun i => ord.contains i) &&
  ((List.range ops.size).all fun i => (ops[i]?).any fun o => (quiet (hintOf hs o.dst) o && (!fc.contains i || o.guard.isNone)) || chainOp (hintOf hs o.dst) o) &&
  ((List.range ops.size).all fun i => (ops[i]?).any fun o => o.after.all fun e => !Region.binds .any e || Nat.blt e.on i) &&
  ((List.range ops.size).all fun i => (List.range ops.size).all fun j => Nat.beq i j || (match dstOf ops i with | none => true | some t => dstOf ops j != some t)) &&
  ((List.range ops.size).all fun i => (ops[i]?).any fun o => (o.looksAt ops).all fun t => (List.range ops.size).all fun j => dstOf ops j != some t || waits ops i j || (fc.contains j && waits ops j i)) &&
  ordOk hs ops fc [] ord

structure GChk (hs : List (Nat × Hint)) (ops : Array Oper) (fc ord : List Nat) : Prop where
  mem : ∀ i, i < ops.size → i ∈ ord
  kind : ∀ (i : Nat) (o : Oper), ops[i]? = some o → (quiet (hintOf hs o.dst) o = true ∧ (i ∉ fc ∨ o.guard = none)) ∨ chainOp (hintOf hs o.dst) o = true
  down : ∀ (i : Nat) (o : Oper), ops[i]? = some o → ∀ e ∈ o.after, Region.binds .any e = true → e.on < i
  uniq : ∀ (i j t : Nat), i ≠ j → dstOf ops i = some t → dstOf ops j ≠ some t
  look : ∀ (i : Nat) (o : Oper), ops[i]? = some o → ∀ t ∈ o.looksAt ops, ∀ j, dstOf ops j = some t → waits ops i j = true ∨ (j ∈ fc ∧ waits ops j i = true)
  ord : ordOk hs ops fc [] ord = true

theorem dstOf_lt {ops : Array Oper} {i t : Nat} (h : dstOf ops i = some t) : i < ops.size := by
  unfold dstOf at h
  obtain ⟨o, ho, _⟩ := Option.bind_eq_some_iff.1 h
  exact (Array.getElem?_eq_some_iff.1 ho).1

theorem gchk_spec {hs : List (Nat × Hint)} {ops : Array Oper} {fc ord : List Nat} (h : gchk hs ops fc ord = true) : GChk hs ops fc ord := by
  simp only [gchk, Bool.and_eq_true] at h
  obtain ⟨⟨⟨⟨⟨c1, c2⟩, c3⟩, c4⟩, c5⟩, c6⟩ := h
  simp only [List.all_eq_true, List.mem_range] at c1 c2 c3 c4 c5
  have lt_of : ∀ {i : Nat} {o : Oper}, ops[i]? = some o → i < ops.size := fun {i o} ho => (Array.getElem?_eq_some_iff.1 ho).1
  refine ⟨fun i hi => by simpa using c1 i hi, fun i o ho => ?_, fun i o ho e he hb => ?_, fun i j t hne hi hj => ?_, fun i o ho t ht j hj => ?_, c6⟩
  · have := c2 i (lt_of ho)
    rw [ho] at this
    simpa [Option.any_some, Bool.or_eq_true] using this
  · have := c3 i (lt_of ho)
    rw [ho] at this
    simp only [Option.any_some, Array.all_eq_true_iff_forall_mem, Bool.or_eq_true, Bool.not_eq_true'] at this
    rcases this e he with h0 | h0
    · rw [hb] at h0; cases h0
    · simpa using h0
  · have := c4 i (dstOf_lt hi) j (dstOf_lt hj)
    rw [hi] at this
    simp only [Bool.or_eq_true, bne_iff_ne, ne_eq] at this
    rcases this with h0 | h0
    · exact hne (Nat.eq_of_beq_eq_true h0)
    · exact h0 hj
  · have := c5 i (lt_of ho)
    rw [ho] at this
    simp only [Option.any_some, List.all_eq_true, List.mem_range, Bool.or_eq_true, bne_iff_ne, ne_eq] at this
    rcases this t ht j (dstOf_lt hj) with (h0 | h0) | h0
    · exact absurd hj h0
    · exact .inl h0
    · simp only [Bool.and_eq_true, List.contains_eq_mem, decide_eq_true_eq] at h0
      exact .inr h0

theorem stay_ev {hs : List (Nat × Hint)} {all : Array Oper} {s : S} {o : Oper} {v : MV} (hq : quiet (hintOf hs o.dst) o = true) (h : stay P T hs s o v) : Ev P T hs all s o v := by
  unfold stay at h
  unfold Ev
  split at h
  · rename_i hg
    split at h
    · rename_i p s1 hst
      obtain ⟨⟨h1⟩, ⟨h2⟩⟩ := h
      obtain ⟨v', rfl, _⟩ := quiet_step hq hst
      have hd : o.dst.isSome = true := by simp only [quiet, Bool.and_eq_true] at hq; exact hq.1
      obtain ⟨d, hd⟩ := Option.isSome_iff_exists.1 hd
      rw [hd] at h2
      simp [S.put] at h2
      subst h2
      rw [hg]
      exact ⟨p, hst, h1⟩
    · exact h.elim
  · exact h.elim
theorem stays_mem {hs : List (Nat × Hint)} {all : Array Oper} {s : S} : ∀ {l : List (Nat × MV)}, stays P T hs all l s → ∀ q ∈ l, ∃ o, all[q.1]? = some o ∧ stay P T hs s o q.2
  | [], _, q, hq => by cases hq
  | (i, v) :: l, h, q, hq => by
    obtain ⟨h1, h2⟩ := h
    rcases List.mem_cons.1 hq with rfl | hq
    · rw [opAt_arr] at h1
      split at h1
      · rename_i o ho; exact ⟨o, ho, h1⟩
      · exact h1.elim
    · exact stays_mem h2 q hq

theorem chain_ok {hs : List (Nat × Hint)} {s s2 : S} {o : Oper} {K : S → Prop} (hT : TOk P T) (hk : (quiet (hintOf hs o.dst) o = true ∧ o.guard = none) ∨ chainOp (hintOf hs o.dst) o = true) (ha : Al s s2 o.op.operands.toList) (h : vcStep P T hs s o K) :
    OpOK P o s2 fun s2' => ∃ s', K s' ∧ Twin o.dst s s' s2 s2' := by
  rcases hk with ⟨hq, _⟩ | hc
  · obtain ⟨v, ⟨p, h1, h2⟩, h3⟩ := vcStep_quiet hq h
    obtain ⟨v', hv, hall⟩ := quiet_step hq h1
    have hd : o.dst.isSome = true := by simp only [quiet, Bool.and_eq_true] at hq; exact hq.1
    obtain ⟨d, hd⟩ := Option.isSome_iff_exists.1 hd
    have : v = v' := by
      rw [hd] at hv
      have := congrArg S.env hv
      simpa [S.put] using this
    subst this
    refine stepF_ok hT (hall s2 ha.alike) h2 ⟨_, h3, ?_⟩
    have t := Twin.put ha (n := s.n) (st := s.st) (dst := o.dst) (v := v)
    have e : (⟨s2.m, s.n, s2.env, s.st⟩ : S) = s2 := by rw [ha.n, ha.st]
    rw [e] at t
    exact t
  · exact vcStep_ok hT (vcStep_nat hc ha h)

section
variable {w0 : World} {wr : Wr} {A : Nat → Prop} {Q : Exit → Act → World → Prop} {all : Array Oper}

structure Inv (P : Program) (T : Tab) (hs : List (Nat × Hint)) (all : Array Oper) (fc rest pre : List Nat) (pd : List (Nat × MV)) (listed : Array Bool) (σ s' : S) : Prop where
  ordk : ordOk hs all fc pre rest = true
  prw : ∀ k ∈ pre, ∀ j, waits all k j = true → j ∈ pre
  cov : ∀ i, i < all.size → listed.getD i true = false → i ∈ rest ∨ ∃ v, (i, v) ∈ pd
  un : ∀ i ∈ rest, listed.getD i true = false
  pdp : ∀ q ∈ pd, q.1 ∈ pre
  pdf : ∀ q ∈ pd, q.1 ∉ fc
  ev : ∀ q ∈ pd, listed.getD q.1 true = false → ∃ o, all[q.1]? = some o ∧ quiet (hintOf hs o.dst) o = true ∧ Ev P T hs all σ o q.2 ∧ ∀ d, o.dst = some d → look σ.env d = some q.2
  m : σ.m = s'.m
  n : σ.n = s'.n
  st : σ.st = s'.st
  env : ∀ t, (∀ q ∈ pd, listed.getD q.1 true = false → dstOf all q.1 ≠ some t) → look s'.env t = look σ.env t

theorem GChk.below {hs : List (Nat × Hint)} {fc ord : List Nat} (hc : GChk hs all fc ord) {i j : Nat} (h : waits all i j = true) : j < i ∧ i < all.size := by
  have hi := waits_lt h
  obtain ⟨e, he, hb, rfl⟩ := waits_spec (Array.getElem?_eq_getElem hi) h
  exact ⟨hc.down i _ (Array.getElem?_eq_getElem hi) e he hb, hi⟩

theorem ordOk_cons {hs : List (Nat × Hint)} {fc ord pre r : List Nat} {i : Nat} (hc : GChk hs all fc ord) (h : ordOk hs all fc pre (i :: r) = true) :
    i < all.size ∧ (∀ j, waits all i j = true → j ∈ pre) ∧ i ∉ pre ∧ (isQ hs all fc i = false → ∀ x ∈ r, ∃ y ∈ i :: r, waits all x y = true) ∧ ordOk hs all fc (i :: pre) r = true := by
  simp only [ordOk, Bool.and_eq_true] at h
  obtain ⟨⟨⟨⟨h1, h2⟩, h3⟩, h4⟩, h5⟩ := h
  refine ⟨by simpa using h1, fun j hw => ?_, by simpa using h3, fun hq x hx => ?_, h5⟩
  · simp only [List.all_eq_true, List.mem_range, Bool.or_eq_true, Bool.not_eq_true'] at h2
    obtain ⟨g1, g2⟩ := hc.below hw
    rcases h2 j (by omega) with h0 | h0
    · rw [hw] at h0; cases h0
    · simpa using h0
  · simp only [Bool.or_eq_true, List.all_eq_true, List.any_eq_true] at h4
    rcases h4 with h0 | h0
    · rw [hq] at h0; cases h0
    · exact h0 x hx
theorem ordOk_notin {hs : List (Nat × Hint)} {fc ord : List Nat} (hc : GChk hs all fc ord) : ∀ {r pre : List Nat}, ordOk hs all fc pre r = true → ∀ x ∈ r, x ∉ pre
  | [], _, _, x, hx => by cases hx
  | i :: r, pre, h, x, hx => by
    obtain ⟨_, _, h1, _, h2⟩ := ordOk_cons hc h
    rcases List.mem_cons.1 hx with rfl | hx
    · exact h1
    · exact fun hp => ordOk_notin hc h2 x hx (List.mem_cons_of_mem _ hp)

/-- The readings that come next are reckoned. -/
theorem absorb {hs : List (Nat × Hint)} {fc ord : List Nat} (hc : GChk hs all fc ord) {K : S → Prop} {listed : Array Bool} {s' : S} : ∀ (rest pre : List Nat) (pd : List (Nat × MV)) (σ : S), vcF P T hs all fc rest pd σ K → Inv P T hs all fc rest pre pd listed σ s' →
    ∃ rest' pre' pd' σ', vcF P T hs all fc rest' pd' σ' K ∧ Inv P T hs all fc rest' pre' pd' listed σ' s' ∧ (rest' = [] ∨ ∃ c r o, rest' = c :: r ∧ all[c]? = some o ∧ flo hs fc c o = false) := by
  intro rest
  induction rest with
  | nil => intro pre pd σ hv hi; exact ⟨[], pre, pd, σ, hv, hi, .inl rfl⟩
  | cons i r ih =>
    intro pre pd σ hv hi
    obtain ⟨hlt, hpre, hnp, _, hord⟩ := ordOk_cons hc hi.ordk
    have ho : all[i]? = some all[i] := Array.getElem?_eq_getElem hlt
    generalize all[i] = o at ho
    cases hfl : flo hs fc i o with
    | false => exact ⟨i :: r, pre, pd, σ, hv, hi, .inr ⟨i, r, o, rfl, ho, hfl⟩⟩
    | true =>
      simp only [vcF, opAt_arr, ho, hfl] at hv
      simp only [flo, Bool.and_eq_true, Bool.not_eq_true', List.contains_eq_mem, decide_eq_false_iff_not] at hfl
      obtain ⟨hq, hnf⟩ := hfl
      obtain ⟨v, s1, hl, hev, hk⟩ := vcOps_quiet hq hv
      have hds : o.dst.isSome = true := by simp only [quiet, Bool.and_eq_true] at hq; exact hq.1
      obtain ⟨d, hd⟩ := Option.isSome_iff_exists.1 hds
      have hdi : dstOf all i = some d := by simp [dstOf, ho, hd]
      rw [hd] at hk
      have hk : vcF P T hs all fc r (pd ++ [(i, v)]) (s1.put (some d) v) K := hk
      have hnew : ∀ t, look (s1.put (some d) v).env t = if t = d then some v else look σ.env t := fun t => by
        simp only [S.put, look_cons]; rw [hl.env]
      -- what looks at other slots sees the same
      have hsame : ∀ k ok, all[k]? = some ok → (k ∈ pre ∨ k = i) → Same all ok σ (s1.put (some d) v) := fun k ok hok hkp => by
        refine ⟨hl.m.symm, hl.st.symm, fun t ht => ?_⟩
        rw [hnew]
        rw [if_neg]
        rintro rfl
        have hw := (hc.look k ok hok t ht i hdi).resolve_right fun h => hnf h.1
        rcases hkp with hkp | rfl
        · -- k before i in the order, yet waits for i
          exact hnp (hi.prw k hkp i hw)
        · exact Nat.lt_irrefl _ (hc.below hw).1
      refine ih (i :: pre) (pd ++ [(i, v)]) (s1.put (some d) v) hk ⟨hord, fun k hk1 j hw => ?_, fun k hk1 hk2 => ?_, fun k hk1 => hi.un k (List.mem_cons_of_mem _ hk1), fun q hq1 => ?_, fun q hq1 => ?_, fun q hq1 hq2 => ?_, hl.m.trans hi.m, hl.n.trans hi.n, hl.st.trans hi.st, fun t ht => ?_⟩
      · rcases List.mem_cons.1 hk1 with rfl | hk1
        · exact List.mem_cons_of_mem _ (hpre j hw)
        · exact List.mem_cons_of_mem _ (hi.prw k hk1 j hw)
      · rcases hi.cov k hk1 hk2 with h | ⟨u, h⟩
        · rcases List.mem_cons.1 h with rfl | h
          · exact .inr ⟨v, List.mem_append.2 (.inr (by simp))⟩
          · exact .inl h
        · exact .inr ⟨u, List.mem_append.2 (.inl h)⟩
      · rcases List.mem_append.1 hq1 with h | h
        · exact List.mem_cons_of_mem _ (hi.pdp q h)
        · simp at h; rw [h]; exact List.mem_cons_self
      · rcases List.mem_append.1 hq1 with h | h
        · exact hi.pdf q h
        · simp at h; rw [h]; exact hnf
      · rcases List.mem_append.1 hq1 with h | h
        · obtain ⟨oq, h1, h2, h3, h4⟩ := hi.ev q h hq2
          refine ⟨oq, h1, h2, h3.same h2 (hsame q.1 oq h1 (.inl (hi.pdp q h))), fun d' hd' => ?_⟩
          rw [hnew, if_neg]
          · exact h4 d' hd'
          · rintro rfl
            have hne : q.1 ≠ i := fun e => hnp (e ▸ hi.pdp q h)
            exact hc.uniq q.1 i d' hne (by simp [dstOf, h1, hd']) hdi
        · simp at h
          subst h
          refine ⟨o, ho, hq, hev.same hq (hsame i o ho (.inr rfl)), fun d' hd' => ?_⟩
          rw [hd] at hd'
          obtain rfl := Option.some.inj hd'
          rw [hnew, if_pos rfl]
      · have hti : t ≠ d := fun e => ht (i, v) (List.mem_append.2 (.inr (by simp))) (hi.un i List.mem_cons_self) (by rw [hdi, e])
        rw [hnew, if_neg hti]
        exact hi.env t fun q hq1 hq2 => ht q (List.mem_append.2 (.inl hq1)) hq2

theorem GChk.ready_all {hs : List (Nat × Hint)} {fc ord : List Nat} {listed : Array Bool} (hc : GChk hs all fc ord) (hsz : listed.size = all.size) (hr : Region.ready .any all listed = []) : ∀ i, i < all.size → listed.getD i true = true := by
  intro i
  induction i using Nat.strongRecOn with
  | _ i ih =>
    intro hi
    cases hl : listed.getD i true with
    | true => rfl
    | false =>
      exfalso
      have : i ∈ Region.ready .any all listed := mem_ready.2 ⟨hl, all[i], Array.getElem?_eq_getElem hi, fun e he hb => by
        have hlt := hc.down i _ (Array.getElem?_eq_getElem hi) e he hb
        have h1 := ih e.on hlt (by omega)
        have : e.on < listed.size := by omega
        simpa [Array.getD_eq_getD_getElem?, Array.getElem?_eq_getElem this] using h1⟩
      rw [hr] at this
      cases this

theorem float_ok {hs : List (Nat × Hint)} {fc ord : List Nat} (hgt : GE P w0 wr A) (hT : TOk P T) (hc : GChk hs all fc ord) {K : S → Prop} (hQ : ∀ s a w, Rel w0 wr A s a w → K s → Q .normal a w) :
    ∀ (fuel : Nat) (listed : Array Bool) (rest pre : List Nat) (pd : List (Nat × MV)) (σ s' : S) (a : Act) (w : World), listed.size = all.size → cntU (fun i => !listed.getD i true) all.size ≤ fuel →
      vcF P T hs all fc rest pd σ K → Inv P T hs all fc rest pre pd listed σ s' → Rel w0 wr A s' a w → wpAny P .any all Q fuel listed a w := by
  -- all are listed
  have done : ∀ (listed : Array Bool) (rest pre : List Nat) (pd : List (Nat × MV)) (σ s' : S) (a : Act) (w : World), (∀ i, i < all.size → listed.getD i true = true) →
      vcF P T hs all fc rest pd σ K → Inv P T hs all fc rest pre pd listed σ s' → Rel w0 wr A s' a w → Q .normal a w := fun listed rest pre pd σ s' a w hall hv hi hr => by
    have hrest : rest = [] := by
      cases rest with
      | nil => rfl
      | cons i r =>
        exfalso
        have h1 := hi.un i List.mem_cons_self
        rw [hall i (ordOk_cons hc hi.ordk).1] at h1
        cases h1
    subst hrest
    obtain ⟨L, F, hR⟩ := hr
    have hl : Lk σ s' := ⟨hi.m, hi.n, hi.st, fun t => (hi.env t fun q hq hq2 => by
      obtain ⟨o, ho, _⟩ := hi.ev q hq hq2
      rw [hall q.1 (Array.getElem?_eq_some_iff.1 ho).1] at hq2
      cases hq2).symm⟩
    exact hQ σ a w ⟨L, F, hl.rl hR⟩ hv
  intro fuel
  induction fuel with
  | zero =>
    intro listed rest pre pd σ s' a w hsz hcnt hv hi hr
    have hz := cntU_zero (Nat.le_zero.1 hcnt)
    have hall : ∀ i, i < all.size → listed.getD i true = true := fun i h => by simpa using hz i h
    refine ⟨List.eq_nil_iff_forall_not_mem.2 fun j hj => ?_, done listed rest pre pd σ s' a w hall hv hi hr⟩
    obtain ⟨h0, o, ho, _⟩ := mem_ready.1 hj
    rw [hall j (Array.getElem?_eq_some_iff.1 ho).1] at h0
    cases h0
  | succ fuel ih =>
    intro listed rest pre pd σ s' a w hsz hcnt hv hi hr
    obtain ⟨rest, pre, pd, σ, hv, hi, hhead⟩ := absorb hc rest pre pd σ hv hi
    refine ⟨fun hn => done listed rest pre pd σ s' a w (hc.ready_all hsz hn) hv hi hr, fun j hj => ?_⟩
    obtain ⟨h0, o, ho, _⟩ := mem_ready.1 hj
    have hjs : j < all.size := (Array.getElem?_eq_some_iff.1 ho).1
    have hw := ready_waits hj
    have hcnt' : cntU (fun i => !(listed.setIfInBounds j true).getD i true) all.size ≤ fuel := by
      have := cntU_set (f := fun i => !listed.getD i true) (g := fun i => !(listed.setIfInBounds j true).getD i true) (i := j) (by simp only [h0]; rfl) (by simp [Array.getD_eq_getD_getElem?, hsz, hjs]) (fun i hi => by
        simp only [getD_set_ne true (Ne.symm hi)]) all.size hjs
      omega
    have hset : ∀ i, (listed.setIfInBounds j true).getD i true = false → i ≠ j ∧ listed.getD i true = false := fun i hi => by
      have hne : i ≠ j := by
        rintro rfl
        simp [Array.getD_eq_getD_getElem?, hsz, hjs] at hi
      exact ⟨hne, by rw [getD_set_ne true (Ne.symm hne)] at hi; exact hi⟩
    -- a slot that is looked at is known
    have known : ∀ t ∈ o.looksAt all, look s'.env t = look σ.env t := fun t ht => hi.env t fun q hq hq2 hd => by
      have h1 := hw q.1 ((hc.look j o ho t ht q.1 hd).resolve_right fun h => hi.pdf q hq h.1)
      have hlt := dstOf_lt hd
      rw [← getD_ft (by omega)] at h1
      rw [hq2] at h1
      cases h1
    by_cases hjr : j ∈ rest
    · -- the next one of the chain
      rcases hhead with rfl | ⟨c, r, oc, rfl, hoc, hqc⟩
      · cases hjr
      obtain ⟨hlt, hpre, hnp, hlate, hord⟩ := ordOk_cons hc hi.ordk
      have hjc : j = c := by
        rcases List.mem_cons.1 hjr with e | hjr
        · exact e
        · exfalso
          obtain ⟨y, hy, hwy⟩ := hlate (by simp [isQ, hoc, hqc]) j hjr
          have h1 := hi.un y hy
          have h2 := hw y hwy
          have hlty := hc.below hwy
          rw [← getD_ft (by omega), h1] at h2
          cases h2
      subst hjc
      obtain rfl : o = oc := by rw [ho] at hoc; exact Option.some.inj hoc
      have hkind : (quiet (hintOf hs o.dst) o = true ∧ o.guard = none) ∨ chainOp (hintOf hs o.dst) o = true := by
        rcases hc.kind j o ho with ⟨h1, h2⟩ | h1
        · refine .inl ⟨h1, h2.resolve_left fun hnf => ?_⟩
          simp [flo, h1, hnf] at hqc
        · exact .inr h1
      have hg : o.guard = none := by
        rcases hkind with ⟨_, h1⟩ | hch
        · exact h1
        · simp only [chainOp, Bool.and_eq_true, Option.isNone_iff_eq_none] at hch
          exact hch.1
      simp only [vcF, opAt_arr, ho, hqc] at hv
      have hal : Al σ s' o.op.operands.toList := ⟨hi.m, hi.n, hi.st, fun x hx => by
        cases x with
        | tmp t =>
          simp only [evO]
          refine (known t ?_).symm
          simp only [Oper.looksAt, List.mem_append, List.mem_filterMap]
          exact .inl ⟨.tmp t, hx, rfl⟩
        | _ => rfl⟩
      have hok := chain_ok hT hkind hal hv
      unfold Go.wpOp
      rw [ho]
      simp only
      have hwd : Region.wanted o (yielded all a.tmps) = true := by simp [Region.wanted, hg]
      rw [if_pos hwd]
      refine .inl (hok w0 wr A a w Q _ hgt hr fun s2' a' w' hr' hk => ?_)
      obtain ⟨σ', ⟨hst, hv'⟩, htw⟩ := hk
      obtain ⟨e, he, hes, hes2⟩ := htw.env
      have hnk : ∀ t, o.dst ≠ some t → look e t = none := fun t ht => by
        cases hle : look e t with
        | none => rfl
        | some v =>
          exfalso
          have : ∀ (l : List (Nat × MV)) (v : MV), look l t = some v → ∃ q ∈ l, q.1 = t := fun l => by
            induction l with
            | nil => intro v h; cases h
            | cons q l ih =>
              intro v h
              obtain ⟨k, u⟩ := q
              rw [look_cons] at h
              by_cases g : t = k
              · exact ⟨(k, u), List.mem_cons_self, g.symm⟩
              · rw [if_neg g] at h
                obtain ⟨q, h1, h2⟩ := ih v h
                exact ⟨q, List.mem_cons_of_mem _ h1, h2⟩
          obtain ⟨q, h1, h2⟩ := this e v hle
          exact ht (by rw [he q h1, h2])
      refine ih (listed.setIfInBounds j true) r (j :: pre) _ σ' s2' a' w' (by simpa using hsz) hcnt' hv' ⟨hord, fun k hk1 i hwk => ?_, fun i h1 h2 => ?_, fun i h1 => ?_, fun q hq => ?_, fun q hq => hi.pdf q (List.mem_filter.1 hq).1, fun q hq hq2 => ?_, htw.m, htw.n, htw.st, fun t ht => ?_⟩ hr'
      · rcases List.mem_cons.1 hk1 with rfl | hk1
        · exact List.mem_cons_of_mem _ (hpre i hwk)
        · exact List.mem_cons_of_mem _ (hi.prw k hk1 i hwk)
      · obtain ⟨hne, h3⟩ := hset i h2
        rcases hi.cov i h1 h3 with h | ⟨v, h⟩
        · rcases List.mem_cons.1 h with e | h
          · exact absurd e hne
          · exact .inl h
        · refine .inr ⟨v, List.mem_filter.2 ⟨h, ?_⟩⟩
          cases hwi : waits all j i with
          | false => simp
          | true =>
            exfalso
            have := hw i hwi
            rw [← getD_ft (by omega), h3] at this
            cases this
      · have hne : j ≠ i := fun e => ordOk_notin hc hord i h1 (e ▸ List.mem_cons_self)
        rw [getD_set_ne true hne]
        exact hi.un i (List.mem_cons_of_mem _ h1)
      · exact List.mem_cons_of_mem _ (hi.pdp q (List.mem_filter.1 hq).1)
      · obtain ⟨hq1, _⟩ := List.mem_filter.1 hq
        obtain ⟨hne, h3⟩ := hset q.1 hq2
        obtain ⟨oq, g1, g2, g3, g4⟩ := hi.ev q hq1 h3
        obtain ⟨oq', g1', g5⟩ := stays_mem hst q hq
        obtain rfl : oq = oq' := by rw [g1] at g1'; exact Option.some.inj g1'
        refine ⟨oq, g1, g2, stay_ev g2 g5, fun d hd => ?_⟩
        rw [hes, look_app, hnk d (fun hod => hc.uniq q.1 j d hne (by simp [dstOf, g1, hd]) (by simp [dstOf, ho, hod]))]
        exact g4 d hd
      · rw [hes, hes2, look_app, look_app]
        by_cases hod : o.dst = some t
        · cases look e t with
          | some v => rfl
          | none =>
            -- then the slot is nobody else's
            refine hi.env t fun q hq1 hq2 hd => ?_
            obtain ⟨oq, g1, _⟩ := hi.ev q hq1 hq2
            exact hc.uniq j q.1 t (fun e => hnp (by rw [e]; exact hi.pdp q hq1)) (by simp [dstOf, ho, hod]) hd
        · rw [hnk t hod]
          refine hi.env t fun q hq1 hq2 hd => ?_
          have hne : q.1 ≠ j := fun e => hnp (by rw [← e]; exact hi.pdp q hq1)
          refine ht q (List.mem_filter.2 ⟨hq1, ?_⟩) (by rw [getD_set_ne true (Ne.symm hne)]; exact hq2) hd
          cases hwi : waits all j q.1 with
          | false => simp
          | true =>
            exfalso
            have := hw q.1 hwi
            have hlt := dstOf_lt hd
            rw [← getD_ft (by omega), hq2] at this
            cases this
    · -- one that reads
      obtain ⟨v, hpd⟩ := (hi.cov j hjs h0).resolve_left hjr
      obtain ⟨oq, g1, g2, g3, g4⟩ := hi.ev (j, v) hpd h0
      obtain rfl : o = oq := by rw [ho] at g1; exact Option.some.inj g1
      have hev := g3.same g2 (s' := s') ⟨hi.m, hi.st, fun t ht => (known t ht).symm⟩
      have hds : o.dst.isSome = true := by simp only [quiet, Bool.and_eq_true] at g2; exact g2.1
      obtain ⟨d, hd⟩ := Option.isSome_iff_exists.1 hds
      refine hev.wpOp hgt hT ho hr fun a' w' hr' => ?_
      rw [hd] at hr'
      have hne' : ∀ i ∈ rest, j ≠ i := fun i h1 e => hjr (e ▸ h1)
      refine ih (listed.setIfInBounds j true) rest pre pd σ (s'.put (some d) v) a' w' (by simpa using hsz) hcnt' hv ⟨hi.ordk, hi.prw, fun i h1 h2 => hi.cov i h1 (hset i h2).2, fun i h1 => ?_, hi.pdp, hi.pdf, fun q hq hq2 => hi.ev q hq (hset q.1 hq2).2, hi.m, hi.n, hi.st, fun t ht => ?_⟩ hr'
      · rw [getD_set_ne true (hne' i h1)]
        exact hi.un i h1
      · simp only [S.put, look_cons]
        by_cases e : t = d
        · subst e
          rw [if_pos rfl]
          exact (g4 t hd).symm
        · rw [if_neg e]
          refine hi.env t fun q hq1 hq2 hdq => ?_
          by_cases ej : q.1 = j
          · rw [ej] at hdq
            simp [dstOf, ho, hd] at hdq
            exact e hdq.symm
          · exact ht q hq1 (by rw [getD_set_ne true (Ne.symm ej)]; exact hq2) hdq
end

/-- A DRAWN REGION whose readings float. -/
theorem W.drawnF {kk : Nat} {id : Nat} {ops : Array Oper} {s : S} {Q : Exit → S → Prop} (hs : List (Nat × Hint)) (fc ord : List Nat) (hT : TOk P T) (hm : P.follows .mixedOrders = true) (hc : gchk hs ops fc ord = true)
    (hv : vcF P T hs ops fc ord [] s fun s' => Q .normal s') : W kk P (.region id ops true) s Q := fun w0 wr A a w hkk ⟨L, F, hr⟩ => by
  have hc := gchk_spec hc
  refine wp_region_any hm (float_ok hkk.2 hT hc (K := fun s' => Q .normal s') (fun s a w hr hk => ⟨s, hr, hk⟩) ops.size _ ord [] [] s s a _ (by simp) ?_ hv ⟨hc.ord, fun k hk => (by cases hk), fun i hi _ => .inl (hc.mem i hi), fun i hi => ?_, fun q hq => (by cases hq), fun q hq => (by cases hq), fun q hq => (by cases hq), rfl, rfl, rfl, fun t _ => rfl⟩ ⟨L, F, hr.drew⟩)
  · have : ∀ (f : Nat → Bool) n, cntU f n ≤ n := fun f n => by
      induction n with
      | zero => exact Nat.le_refl _
      | succ n ih => simp only [cntU]; split <;> omega
    exact this _ _
  · have : ∀ {r pre : List Nat}, ordOk hs ops fc pre r = true → ∀ x ∈ r, x < ops.size := fun {r} => by
      induction r with
      | nil => intro pre _ x hx; cases hx
      | cons i r ih =>
        intro pre h x hx
        obtain ⟨h1, _, _, _, h2⟩ := ordOk_cons hc h
        rcases List.mem_cons.1 hx with rfl | hx
        · exact h1
        · exact ih h2 x hx
    have hlt := this hc.ord i hi
    simp [Array.getD_eq_getD_getElem?, hlt]
end Mg
