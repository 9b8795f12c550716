/- The abstract state logic, part 18: drawn regions: a head of operations that only read, in any order, then the rest in its order. No condition. -/
import Derived.Test.YthflichlfpmenaaGreatMg17
import Derived.Orders
namespace Mg
open Go Go.RowKit
set_option linter.unusedVariables false

variable {P : Program} {T : Tab}

/-- Two states that read alike. -/
def Alike (s s' : S) (l : List Operand) : Prop := s.m = s'.m ∧ s.st = s'.st ∧ ∀ x ∈ l, evO s x = evO s' x

theorem Alike.ptr {s s' : S} {l : List Operand} (h : Alike s s' l) (c : MC) : ptrCells s c = ptrCells s' c := by
  cases c <;> simp [ptrCells, h.2.1]
theorem lendC_alike {s s' : S} (h : s.st = s'.st) (c : MC) : lendC s c = lendC s' c := by
  cases c <;> simp [lendC, h]
theorem lendL_alike {s s' : S} (h : s.st = s'.st) : ∀ cs : List MC, lendL s cs = lendL s' cs
  | [] => rfl
  | c :: cs => by simp only [lendL, lendC_alike h c, lendL_alike h cs]
theorem lendV_alike {s s' : S} (h : s.st = s'.st) (v : MV) : lendV s v = lendV s' v := by
  cases v <;> simp [lendV, lendC_alike h, lendL_alike h]
theorem lend_alike {s s' : S} (h : s.st = s'.st) : ∀ (xs : List Operand), (∀ x ∈ xs, evO s x = evO s' x) → lend s xs = lend s' xs
  | [], _ => rfl
  | x :: xs, hx => by
    simp only [lend]
    rw [hx x List.mem_cons_self, lend_alike h xs (fun y hy => hx y (List.mem_cons_of_mem _ hy))]
    rw [show lendV s = lendV s' from funext (lendV_alike h)]
theorem fillM_alike {s s' : S} {T : Tab} {place : Nat → Option (Nat × Nat)} : ∀ (parts : List (Nat × Operand)) (cells : List MC), (∀ q ∈ parts, evO s q.2 = evO s' q.2) → fillM s T place cells parts = fillM s' T place cells parts
  | [], cells, _ => rfl
  | (i, x) :: rest, cells, hx => by
    simp only [fillM]
    rw [hx (i, x) List.mem_cons_self]
    have ih := fun cells => fillM_alike (T := T) (place := place) rest cells fun q hq => hx q (List.mem_cons_of_mem _ hq)
    simp only [ih]
theorem bnd_alike {s s' : S} {d : Int} {x : Option Operand} (h : ∀ y, x = some y → evO s y = evO s' y) : bnd s d x = bnd s' d x := by
  cases x with
  | none => rfl
  | some y => simp only [bnd, h y rfl]

theorem stepV_alike {s s' : S} {op : Op} (h : Alike s s' op.operands.toList) : stepV T s op = stepV T s' op := by
  have hp := h.ptr
  obtain ⟨hm, hst, he⟩ := h
  cases op <;> try rfl
  case move x => simp only [stepV, he x (by simp [Op.operands])]
  case assign x => simp only [stepV, he x (by simp [Op.operands])]
  case pick c x y => simp only [stepV, he c (by simp [Op.operands]), he x (by simp [Op.operands]), he y (by simp [Op.operands])]
  case binOp op t x y t' => simp only [stepV, he x (by simp [Op.operands]), he y (by simp [Op.operands])]
  case unOp op t x => cases op <;> simp only [stepV, he x (by simp [Op.operands])]
  case convert t t' x => simp only [stepV, he x (by simp [Op.operands])]
  case nilCheck x => simp only [stepV, he x (by simp [Op.operands]), hst]
  case extract x i => simp only [stepV, he x (by simp [Op.operands])]
  case fieldAddr t x f => simp only [stepV, he x (by simp [Op.operands]), hst]
  case load t x => simp only [stepV, he x (by simp [Op.operands]), hp]
  case call c =>
    obtain ⟨cal, args, ats⟩ := c
    cases cal <;> try rfl
    case builtin b =>
      cases b <;> try rfl
      simp only [stepV]
      rcases hargs : args.toList with _ | ⟨x, _ | ⟨y, r⟩⟩ <;> try rfl
      rcases hats : ats.toList with _ | ⟨t, _ | ⟨t2, r⟩⟩ <;> try rfl
      simp only [stepLen]
      have hx : x ∈ (Op.operands (.call { callee := .builtin .len, args := args, argTypes := ats })).toList := by
        simp [Op.operands, Call.operands]
        have : x ∈ args.toList := by rw [hargs]; simp
        simpa using this
      simp only [he x hx, hst]

/-- Operations that only read and reckon. -/
def quiet (h : Option Hint) (o : Oper) : Bool := o.dst.isSome && match o.op with
  | .move _ => true
  | .pick _ _ _ => true
  | .binOp _ _ _ _ _ => true
  | .unOp _ _ _ => true
  | .convert _ _ _ => true
  | .nilCheck _ => true
  | .extract _ _ => true
  | .fieldAddr _ _ _ => true
  | .load _ _ => true
  | .indexAddr _ _ _ => true
  | .build _ _ => true
  | .slice _ _ _ _ none => true
  | .call c => match c.callee with
    | .value (.func _) => match h with
      | some (.res (.one c)) => c.frz
      | some (.res (.agg cs)) => cs.all MC.frz
      | _ => false
    | .builtin .len => true
    | _ => false
  | _ => false

theorem adC_frz (s : S) : ∀ cs : List MC, cs.all MC.frz = true → adC s cs = (cs, s)
  | [], _ => rfl
  | c :: cs, h => by
    simp only [List.all_cons, Bool.and_eq_true] at h
    have ih := adC_frz s cs h.2
    have h1 := h.1
    cases c <;> simp [MC.frz] at h1 <;> simp [adC, ih]
theorem adV_frz1 (s : S) {c : MC} (h : c.frz = true) : adV s (.one c) = (.one c, s) := by
  have := adC_frz s [c] (by simp [h])
  simp [adV, adV1, this]
theorem adV_frzs (s : S) {cs : List MC} (h : cs.all MC.frz = true) : adV s (.agg cs) = (.agg cs, s) := by
  simp [adV, adV1, adC_frz s cs h]

/-- A quiet step: a value, and the same from every state that reads alike. -/
theorem quiet_step {h : Option Hint} {s s1 : S} {o : Oper} {p : Prop} (hq : quiet h o = true) (hs : stepF P T h s o = some (p, s1)) :
    ∃ v, s1 = s.put o.dst v ∧ ∀ s' : S, Alike s s' o.op.operands.toList → stepF P T h s' o = some (p, s'.put o.dst v) := by
  simp only [quiet, Bool.and_eq_true] at hq
  obtain ⟨hdst, hq⟩ := hq
  -- the plain steps
  have plain : ∀ op, o.op = op → (∀ s : S, Oper.dok o s.m = true → stepF P T h s o = (stepV T s op).map fun q => (q.1, s.put o.dst q.2)) → ∃ v, s1 = s.put o.dst v ∧ ∀ s' : S, Alike s s' op.operands.toList → stepF P T h s' o = some (p, s'.put o.dst v) := fun op ho hst => by
    have hd : Oper.dok o s.m = true := by
      unfold stepF at hs
      split at hs
      · cases hs
      · assumption
    rw [hst s hd] at hs
    obtain ⟨q, hq, he⟩ := Option.map_eq_some_iff.1 hs
    obtain ⟨rfl, rfl⟩ := Prod.mk.inj he
    refine ⟨q.2, rfl, fun s' ha => ?_⟩
    rw [hst s' (by rw [← ha.1]; exact hd), ← stepV_alike ha, hq]
    rfl
  cases ho : o.op <;> rw [ho] at hq <;> try (simp at hq; done)
  case move x => exact plain _ ho fun s hd => by unfold stepF; rw [hd, ho]
  case pick => exact plain _ ho fun s hd => by unfold stepF; rw [hd, ho]
  case binOp op t x y yt =>
    have hd : Oper.dok o s.m = true := by
      unfold stepF at hs
      split at hs
      · cases hs
      · assumption
    have hst : ∀ s : S, Oper.dok o s.m = true → stepF P T h s o = (stepB P T s op t x y yt).map fun q => (q.1, s.put o.dst q.2) := fun s hd => by unfold stepF; rw [hd, ho]
    rw [hst s hd] at hs
    obtain ⟨q, hq, he⟩ := Option.map_eq_some_iff.1 hs
    obtain ⟨rfl, rfl⟩ := Prod.mk.inj he
    refine ⟨q.2, rfl, fun s' ha => ?_⟩
    have hsame : stepB P T s' op t x y yt = stepB P T s op t x y yt := by
      unfold stepB
      rw [← ha.2.2 x (by simp [Op.operands]), ← ha.2.2 y (by simp [Op.operands]), ← stepV_alike ha]
    rw [hst s' (by rw [← ha.1]; exact hd), hsame, hq]
    rfl
  case unOp => exact plain _ ho fun s hd => by unfold stepF; rw [hd, ho]
  case convert => exact plain _ ho fun s hd => by unfold stepF; rw [hd, ho]
  case nilCheck => exact plain _ ho fun s hd => by unfold stepF; rw [hd, ho]
  case extract => exact plain _ ho fun s hd => by unfold stepF; rw [hd, ho]
  case fieldAddr => exact plain _ ho fun s hd => by unfold stepF; rw [hd, ho]
  case load => exact plain _ ho fun s hd => by unfold stepF; rw [hd, ho]
  case indexAddr t x y =>
    unfold stepF at hs
    split at hs
    · cases hs
    · rename_i hd
      rw [ho] at hs
      simp only at hs
      have key : ∃ v, s1 = s.put o.dst v ∧ ∀ s' : S, Alike s s' [x, y] → stepIx T h s' o t x y = some (p, s'.put o.dst v) := by
        unfold stepIx at hs
        split at hs
        · rename_i i c kk n ht hx hy
          have hal : ∀ s' : S, Alike s s' [x, y] → evO s' x = some (.one c) ∧ evO s' y = some (.one (.sc (.int kk n))) := fun s' ha => ⟨by rw [← ha.2.2 x (by simp)]; exact hx, by rw [← ha.2.2 y (by simp)]; exact hy⟩
          split at hs
          · rename_i e hk
            split at hs
            · rename_i ie he
              split at hs
              · rename_i rows row hc hrow
                obtain ⟨rfl, rfl⟩ := pj hs
                refine ⟨_, rfl, fun s' ha => ?_⟩
                simp only [stepIx, ht, (hal s' ha).1, (hal s' ha).2, hk, he, hc, hrow]
              · cases hs
              · rename_i hc
                split at hs
                · rename_i id off len
                  split at hs
                  · rename_i rows row hlk hrow
                    obtain ⟨rfl, rfl⟩ := pj hs
                    refine ⟨_, rfl, fun s' ha => ?_⟩
                    simp only [stepIx, ht, (hal s' ha).1, (hal s' ha).2, hk, he, hc, ← ha.2.1, hlk, hrow]
                  · rename_i rows hlk hnr
                    obtain ⟨rfl, rfl⟩ := pj hs
                    refine ⟨_, rfl, fun s' ha => ?_⟩
                    simp only [stepIx, ht, (hal s' ha).1, (hal s' ha).2, hk, he, hc, ← ha.2.1, hlk]
                  · cases hs
                · cases hs
            · cases hs
          · rename_i m e hk
            split at hs
            · rename_i ie he hc
              obtain ⟨rfl, rfl⟩ := pj hs
              refine ⟨_, rfl, fun s' ha => ?_⟩
              simp only [stepIx, ht, (hal s' ha).1, (hal s' ha).2, hk, he, ← ha.2.1, hc]
            · cases hs
          · cases hs
        · cases hs
      obtain ⟨v, h1, h2⟩ := key
      refine ⟨v, h1, fun s' ha => ?_⟩
      have hd' : Oper.dok o s'.m = true := by rw [← ha.1]; exact hd
      unfold stepF
      simp only [hd', ho]
      exact h2 s' (by simpa [Op.operands] using ha)
  case build t parts =>
    unfold stepF at hs
    split at hs
    · cases hs
    · rename_i hd
      rw [ho] at hs
      simp only at hs
      split at hs
      · rename_i i ht
        split at hs
        · rename_i l hk
          obtain ⟨q, hq, he⟩ := Option.map_eq_some_iff.1 hs
          obtain ⟨rfl, rfl⟩ := Prod.mk.inj he
          refine ⟨_, rfl, fun s' ha => ?_⟩
          have hd' : Oper.dok o s'.m = true := by rw [← ha.1]; exact hd
          unfold stepF
          simp only [hd', ho, ht, hk]
          rw [← fillM_alike (s := s) parts.toList _ (fun q hq => ha.2.2 q.2 (by simp [Op.operands]; exact ⟨q.1, by simpa using hq⟩)), hq]
          rfl
        · rename_i m e hk
          split at hs
          · rename_i ie hie
            obtain ⟨q, hq, he⟩ := Option.map_eq_some_iff.1 hs
            obtain ⟨rfl, rfl⟩ := Prod.mk.inj he
            refine ⟨_, rfl, fun s' ha => ?_⟩
            have hd' : Oper.dok o s'.m = true := by rw [← ha.1]; exact hd
            unfold stepF
            simp only [hd', ho, ht, hk, hie]
            rw [← fillM_alike (s := s) parts.toList _ (fun q hq => ha.2.2 q.2 (by simp [Op.operands]; exact ⟨q.1, by simpa using hq⟩)), hq]
            rfl
          · cases hs
        · cases hs
      · cases hs
  case slice t x lo hi mx =>
    cases mx with
    | some m => simp at hq
    | none =>
      unfold stepF at hs
      split at hs
      · cases hs
      · rename_i hd
        rw [ho] at hs
        simp only at hs
        split at hs
        · rename_i i c ht hx
          have hb : ∀ s' : S, Alike s s' ((Op.slice t x lo hi none).operands.toList) → evO s' x = some (.one c) ∧ (∀ d, bnd s' d lo = bnd s d lo) ∧ ∀ d, bnd s' d hi = bnd s d hi := fun s' ha =>
            ⟨by rw [← ha.2.2 x (by simp [Op.operands])]; exact hx, fun d => (bnd_alike fun y hy => ha.2.2 y (by subst hy; simp [Op.operands])).symm, fun d => (bnd_alike fun y hy => ha.2.2 y (by subst hy; simp [Op.operands])).symm⟩
          split at hs
          · rename_i e hk
            split at hs
            · rename_i ie he
              split at hs
              · rename_i rows hc
                split at hs
                · rename_i l h1 hl hh
                  obtain ⟨rfl, rfl⟩ := pj hs
                  refine ⟨_, rfl, fun s' ha => ?_⟩
                  obtain ⟨h1, h2, h3⟩ := hb s' ha
                  have hd' : Oper.dok o s'.m = true := by rw [← ha.1]; exact hd
                  unfold stepF
                  simp only [hd', ho, ht, h1, hk, he, hc, h2, h3, hl, hh]
                · cases hs
              · rename_i hc
                split at hs
                · rename_i id off len
                  split at hs
                  · rename_i rows l h1 hlk hl hh
                    obtain ⟨rfl, rfl⟩ := pj hs
                    refine ⟨_, rfl, fun s' ha => ?_⟩
                    obtain ⟨h1, h2, h3⟩ := hb s' ha
                    have hd' : Oper.dok o s'.m = true := by rw [← ha.1]; exact hd
                    unfold stepF
                    simp only [hd', ho, ht, h1, hk, he, hc, h2, h3, hl, hh, ← ha.2.1, hlk]
                  · cases hs
                · cases hs
            · cases hs
          · cases hs
        · cases hs
  case call c =>
    obtain ⟨cal, args, ats⟩ := c
    cases cal with
    | invoke r m => simp at hq
    | builtin b =>
      cases b <;> try (simp at hq; done)
      exact plain _ ho fun s hd => by unfold stepF; rw [hd, ho]
    | value f =>
      cases f <;> try (simp at hq; done)
      rename_i f
      unfold stepF at hs
      split at hs
      · cases hs
      · rename_i hd
        rw [ho] at hs
        simp only at hs
        split at hs
        · rename_i p' ds r hl
          obtain ⟨rfl, rfl⟩ := pj hs
          have had : ∀ s : S, adV s r = (r, s) := fun s => by
            simp only at hq
            split at hq
            · rename_i c hc; obtain rfl := Hint.res.inj (Option.some.inj hc); exact adV_frz1 s hq
            · rename_i cs hc; obtain rfl := Hint.res.inj (Option.some.inj hc); exact adV_frzs s hq
            · cases hq
          refine ⟨r, by rw [had s], fun s' ha => ?_⟩
          have hd' : Oper.dok o s'.m = true := by rw [← ha.1]; exact hd
          unfold stepF
          simp only [hd', ho]
          rw [← lend_alike ha.2.1 args.toList (fun x hx => ha.2.2 x (by simp [Op.operands, Call.operands]; exact .inr (by simpa using hx))), hl]
          simp only [had s']
        · simp at hq
        · cases hs

end Mg
