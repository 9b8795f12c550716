/- The abstract state logic, part 13: a function's entry and end. No condition. -/
import Derived.Test.YthflichlfpmenaaGreatMg12
namespace Mg
open Go Go.RowKit
set_option linter.unusedVariables false

variable {P : Program} {T : Tab}

def MV.toA : MV → MV
  | .one c => .one c.toA
  | .agg cs => .agg (cs.map MC.toA)
  | x => x
def envFrom : Nat → List MV → List (Nat × MV)
  | _, [] => []
  | k, x :: xs => (k, x.toA) :: envFrom (k + 1) xs
theorem look_envFrom : ∀ (xs : List MV) (k j : Nat), look (envFrom k xs) j = if k ≤ j then (xs[j - k]?).map MV.toA else none
  | [], k, j => by simp [envFrom]
  | x :: xs, k, j => by
    rw [envFrom, look_cons, look_envFrom xs (k + 1) j]
    by_cases e : j = k
    · subst e; simp
    · by_cases h : k ≤ j
      · rw [if_neg e, if_pos (by omega), if_pos h, show j - k = (j - (k + 1)) + 1 by omega, List.getElem?_cons_succ]
      · rw [if_neg e, if_neg (by omega), if_neg h]

def S.start (m : Nat) (args : List MV) : S := ⟨m, 0, envFrom 0 args, []⟩

theorem FV.rv {w : World} {A : Nat → Prop} {x : MV} {v : Value} (h : FV w A x v) : RV (look []) (fun _ => none) w ⟨fun _ => False, A⟩ x.toA v ∧ x.toA.bd 0 := by
  have hm : ∀ {c : MC} {v : Value}, RF w A c v → RC (look []) (fun _ => none) w ⟨fun _ => False, A⟩ c.toA v := fun h =>
    RC.of_RFa (F := ⟨fun _ => False, A⟩) (RF.mono (fun _ _ => rfl) (fun b hb => Or.inr hb) h)
  cases x with
  | one c => exact ⟨hm h, MC.bd_toA (RF.frz h)⟩
  | agg cs =>
    obtain ⟨arr, rfl, h1, h2⟩ := h
    refine ⟨⟨arr, rfl, by simp [h1], fun j c hj => ?_⟩, fun c hc => ?_⟩
    · rw [List.getElem?_map] at hj
      obtain ⟨d, hd, rfl⟩ := Option.map_eq_some_iff.1 hj
      obtain ⟨u, hu, hr⟩ := h2 j d hd
      exact ⟨u, hu, hm hr⟩
    · obtain ⟨d, hd, rfl⟩ := List.mem_map.1 hc
      obtain ⟨j, hj⟩ := List.getElem?_of_mem hd
      obtain ⟨u, _, hr⟩ := h2 j d hj
      exact MC.bd_toA hr.frz
  | _ => exact h.elim

theorem start_rel {w : World} {A : Nat → Prop} {vals : Array Value} {args : List MV} {m : Nat} (hs : vals.size = args.length) (hm : args.length ≤ m)
    (h : ∀ (j : Nat) (x : MV), args[j]? = some x → ∃ v : Value, vals[j]? = some v ∧ FV w A x v) (hA : ∀ b, A b → b < w.heap.size) :
    Rel w ⟨fun _ => False, 0, fun _ => none, fun _ => False⟩ A (S.start m args) { tmps := vals ++ Array.replicate (m - vals.size) undef, defers := [] } w := by
  refine ⟨fun _ => none, ⟨fun _ => False, A⟩, rfl, rfl, rfl, Nat.le_refl _, fun _ _ _ => rfl, fun _ _ _ h => h, fun i hi => absurd hi (Nat.not_lt_zero i), rfl, fun b hb => hb.elim, ?_, ?_, ?_, ?_, ?_, ?_, ?_, ?_, rfl⟩
  · rintro b (hb | hb)
    · exact hb.elim
    · exact hA b hb
  · intro id o ho; simp [S.start] at ho
  · intro id b t h1; simp [S.start] at h1
  · intro i j b t u h1; simp [S.start] at h1
  · simp [S.start]; omega
  · intro t v hv
    simp only [S.start, look_envFrom, Nat.zero_le, if_true, Nat.sub_zero] at hv
    obtain ⟨x, hx, rfl⟩ := Option.map_eq_some_iff.1 hv
    obtain ⟨u, hu, hf⟩ := h t x hx
    have hlt : t < vals.size := (Array.getElem?_eq_some_iff.1 hu).1
    have : (vals ++ Array.replicate (m - vals.size) undef).getD t undef = u := by
      simp [Array.getElem?_append_left hlt, hu]
    show RV _ _ _ _ _ ((vals ++ Array.replicate (m - vals.size) undef).getD t undef)
    rw [this]
    exact hf.rv.1
  · intro id o ho; simp [S.start] at ho
  · intro t v hv
    simp only [S.start, look_envFrom, Nat.zero_le, if_true, Nat.sub_zero] at hv
    obtain ⟨x, hx, rfl⟩ := Option.map_eq_some_iff.1 hv
    obtain ⟨u, hu, hf⟩ := h t x hx
    exact hf.rv.2

/-- What a result variable holds. -/
def resV (T : Tab) (s : S) : ResultVar → Option (Prop × MV)
  | .tmp t => (look s.env t).map fun v => (True, v)
  | .cell a t => match look s.env a, T t with
    | some (.one c), some i => match ptrCells s c, i.k with
      | some cs, .struct _ => some (i.size ≤ cs.length, .agg (cs.take i.size))
      | some cs, .arr _ _ => some (i.size ≤ cs.length, .agg (cs.take i.size))
      | _, _ => none
    | _, _ => none
def resL (T : Tab) (s : S) : List ResultVar → Option (Prop × List MV)
  | [] => some (True, [])
  | x :: xs => match resV T s x, resL T s xs with
    | some (p, v), some (q, vs) => some (p ∧ q, v :: vs)
    | _, _ => none

def resS (tmps : Array Value) : ResultVar → Sem Value
  | .tmp t => pure (tmps.getD t undef)
  | .cell b t => do loadVar t (← asAddr (tmps.getD b undef))

theorem resV_ok {w0 : World} {wr : Wr} {A : Nat → Prop} {L : Lay} {F : FF} {s : S} {a : Act} {w : World} (hT : TOk P T) (h : Rl w0 wr A L F s a w) {x : ResultVar} {p : Prop} {v : MV} (hx : resV T s x = some (p, v)) (hp : p) :
    ∃ u : Value, (resS a.tmps x).run P w = .ok u w ∧ RV (look s.st) L w F v u := by
  cases x with
  | tmp t =>
    obtain ⟨q, hq, he⟩ := Option.map_eq_some_iff.1 hx
    obtain ⟨rfl, rfl⟩ := Prod.mk.inj he
    exact ⟨_, rfl, h.env t _ hq⟩
  | cell b t =>
    have key : ∃ (c : MC) (cs : List MC) (i : TI), look s.env b = some (.one c) ∧ T t = some i ∧ ptrCells s c = some cs ∧ (match i.k with | .arr _ _ | .struct _ => true | _ => false) = true ∧ p = (i.size ≤ cs.length) ∧ v = .agg (cs.take i.size) := by
      simp only [resV] at hx
      split at hx
      · rename_i c i h1 h2
        split at hx
        · rename_i cs l h3 h4
          obtain ⟨rfl, rfl⟩ := Prod.mk.inj (Option.some.inj hx)
          exact ⟨c, cs, i, h1, h2, h3, by rw [h4], rfl, rfl⟩
        · rename_i cs l l' h3 h4
          obtain ⟨rfl, rfl⟩ := Prod.mk.inj (Option.some.inj hx)
          exact ⟨c, cs, i, h1, h2, h3, by rw [h4], rfl, rfl⟩
        · cases hx
      · cases hx
    obtain ⟨c, cs, i, h1, ht, h3, hk, rfl, rfl⟩ := key
    have hc : RC (look s.st) L w F c (a.tmps.getD b undef) := h.env b _ h1
    obtain ⟨bb, pp, hv, hw, hb⟩ := ptrCells_ok h hc h3
    obtain ⟨hr, hcc⟩ := vals_range hw hp
    obtain ⟨d, hu, hrow⟩ := hT.isRow ht hk
    obtain ⟨f, hf, hs, _⟩ := hT.info ht
    refine ⟨.agg (vals w bb pp i.size).toArray, ?_, ⟨_, rfl, hcc⟩⟩
    simp only [resS, Sem.run_bind, hv, asAddr, Sem.run_pure, Result.andThen_ok]
    exact run_loadVar_mid w bb pp t (vals w bb pp i.size) d hr hu hrow (by rw [hf]; simp [hs, vals])

theorem resL_ok {w0 : World} {wr : Wr} {A : Nat → Prop} {L : Lay} {F : FF} {s : S} {a : Act} {w : World} (hT : TOk P T) (h : Rl w0 wr A L F s a w) : ∀ {xs : List ResultVar} {p : Prop} {vs : List MV}, resL T s xs = some (p, vs) → p →
    ∃ us : List Value, (xs.mapM (resS a.tmps)).run P w = .ok us w ∧ us.length = vs.length ∧
      ∀ (j : Nat) (v : MV), vs[j]? = some v → ∃ u, us[j]? = some u ∧ RV (look s.st) L w F v u
  | [], p, vs, hx, hp => by
    obtain ⟨rfl, rfl⟩ := Prod.mk.inj (Option.some.inj hx)
    exact ⟨[], rfl, rfl, fun j v hj => by simp at hj⟩
  | x :: xs, p, vs, hx, hp => by
    simp only [resL] at hx
    split at hx
    · rename_i p1 v1 q1 vs1 h1 h2
      obtain ⟨rfl, rfl⟩ := Prod.mk.inj (Option.some.inj hx)
      obtain ⟨u, hu, hr⟩ := resV_ok hT h h1 hp.1
      obtain ⟨us, hus, hlen, hrs⟩ := resL_ok hT h h2 hp.2
      refine ⟨u :: us, ?_, by simp [hlen], fun j v hj => ?_⟩
      · rw [List.mapM_cons, Sem.run_bind, hu]
        simp only [Result.andThen_ok, Sem.run_bind]
        rw [hus]; rfl
      · cases j with
        | zero => obtain rfl := Option.some.inj hj; exact ⟨u, rfl, hr⟩
        | succ j => exact hrs j v hj
    · cases hx

def AllF (rows : List (List MC)) : Prop := ∀ r ∈ rows, ∀ c ∈ r, c.frz = true

/-- A result's cell as the contract has it; names that become its own; names that are frozen. -/
def outC (sh : Bool) (s : S) : MC → MC → Option (Prop × List Nat × List Nat)
  | .sc v, .sc u => some (v = u, [], [])
  | .fz r, .fz r' => some (r = r', [], [])
  | .ag r, .fz r' => some (sh = true ∧ r = r', [], [])
  | .nil, .fz r' => some (r' = [], [], [])
  | .nil, .own r' => some (r' = [], [], [])
  | .ref id off len, .own r' => match look s.st id with
    | some (.arr rows) => some (off = 0 ∧ len = rows.length ∧ rows = r' ∧ AllF rows, [id], [])
    | _ => none
  | .ref id off len, .fz r' => match look s.st id with
    | some (.arr rows) => some ((rows.drop off).take len = r' ∧ AllF rows, [], [id])
    | _ => none
  | _, _ => none
def outL (sh : Bool) (s : S) : List MC → List MC → Option (Prop × List Nat × List Nat)
  | [], [] => some (True, [], [])
  | c :: cs, d :: ds => match outC sh s c d, outL sh s cs ds with
    | some (p, i, j), some (q, k, l) => some (p ∧ q, i ++ k, j ++ l)
    | _, _ => none
  | _, _ => none
def outV1 (sh : Bool) (s : S) : MV → MV → Option (Prop × List Nat × List Nat)
  | .one c, .one d => outL sh s [c] [d]
  | .agg cs, .agg ds => outL sh s cs ds
  | _, _ => none
def outT (sh : Bool) (s : S) : List MV → List MV → Option (Prop × List Nat × List Nat)
  | [], [] => some (True, [], [])
  | c :: cs, d :: ds => match outV1 sh s c d, outT sh s cs ds with
    | some (p, i, j), some (q, k, l) => some (p ∧ q, i ++ k, j ++ l)
    | _, _ => none
  | _, _ => none

/-- The result's frozen part. -/
def outF (sh : Bool) (A : Nat → Prop) (F : FF) (L : Lay) (fs : List Nat) (b : Nat) : Prop := F.n b ∨ (∃ id ∈ fs, ∃ t, L id = some (b, t)) ∨ (sh = true ∧ A b)

structure OutOK (w : World) (G : Nat → Prop) (L : Lay) (s : S) (os : List Nat) (bs : List Nat) : Prop where
  nd : os.Nodup → bs.Nodup
  src : ∀ b ∈ bs, ∃ id ∈ os, (look s.st id).isSome = true ∧ ∃ t, L id = some (b, t)

theorem outC_ok {w0 : World} {wr : Wr} {A : Nat → Prop} {L : Lay} {F : FF} {s : S} {a : Act} {w : World} (h : Rl w0 wr A L F s a w) {sh : Bool} {fs0 : List Nat} {c d : MC} {p : Prop} {os fs : List Nat} {v : Value}
    (hc : RC (look s.st) L w F c v) (ho : outC sh s c d = some (p, os, fs)) (hp : p) (hfs : ∀ i ∈ fs, i ∈ fs0) :
    (∀ {cs : List MC} {vs : List Value} {bs : List Nat}, OC w (outF sh A F L fs0) cs vs bs → ∃ b1, OC w (outF sh A F L fs0) (d :: cs) (v :: vs) (b1 ++ bs) ∧ OutOK w (outF sh A F L fs0) L s os b1) ∧ ∀ i ∈ fs, (look s.st i).isSome = true := by
  have hFn : ∀ b, F.n b → outF sh A F L fs0 b := fun b hb => .inl hb
  have nilOK : OutOK w (outF sh A F L fs0) L s [] [] := ⟨fun _ => List.nodup_nil, fun b hb => by simp at hb⟩
  cases c <;> cases d <;> simp only [outC] at ho
  all_goals try (cases ho; done)
  case sc.sc u u' =>
    obtain ⟨rfl, rfl, rfl⟩ : (u = u') = p ∧ [] = os ∧ [] = fs := by simpa using ho
    obtain ⟨rfl, h1⟩ := hc
    subst hp
    exact ⟨fun t => ⟨[], .fz (.sc _ h1) t, nilOK⟩, fun i hi => by simp at hi⟩
  case fz.fz r r' =>
    obtain ⟨rfl, rfl, rfl⟩ : (r = r') = p ∧ [] = os ∧ [] = fs := by simpa using ho
    subst hp
    exact ⟨fun t => ⟨[], .fz (RF.mono (fun _ _ => rfl) hFn hc) t, nilOK⟩, fun i hi => by simp at hi⟩
  case ag.fz r r' =>
    obtain ⟨rfl, rfl, rfl⟩ : (sh = true ∧ r = r') = p ∧ [] = os ∧ [] = fs := by simpa using ho
    obtain ⟨hsh, rfl⟩ := hp
    refine ⟨fun t => ⟨[], .fz (RF.mono (fun _ _ => rfl) (fun b hb => ?_) hc) t, nilOK⟩, fun i hi => by simp at hi⟩
    rcases hb with hb | hb
    · exact .inl hb
    · exact .inr (.inr ⟨hsh, by rw [← h.fa]; exact hb⟩)
  case nil.fz r' =>
    obtain ⟨rfl, rfl, rfl⟩ : (r' = []) = p ∧ [] = os ∧ [] = fs := by simpa using ho
    subst hp
    obtain ⟨b, rfl⟩ := hc
    exact ⟨fun t => ⟨[], .fz (.nilz b 0) t, nilOK⟩, fun i hi => by simp at hi⟩
  case nil.own r' =>
    obtain ⟨rfl, rfl, rfl⟩ : (r' = []) = p ∧ [] = os ∧ [] = fs := by simpa using ho
    subst hp
    obtain ⟨b, rfl⟩ := hc
    exact ⟨fun t => ⟨[], .own0 t, nilOK⟩, fun i hi => by simp at hi⟩
  case ref.own id off len r' =>
    split at ho
    · rename_i rows hlk
      obtain ⟨rfl, rfl, rfl⟩ : (off = 0 ∧ len = rows.length ∧ rows = r' ∧ AllF rows) = p ∧ [id] = os ∧ [] = fs := by simpa using ho
      obtain ⟨rfl, rfl, rfl, hall⟩ := hp
      refine ⟨fun {cs vs bs} t => ?_, fun i hi => by simp at hi⟩
      obtain ⟨bb, cap, hv, hle, hx⟩ := hc.2 rows hlk
      rcases hx with ⟨b, st, hL, rfl, hcap, hne, hcs⟩ | ⟨h0, h00⟩
      · rcases h.ob id _ hlk with ⟨rfl, _⟩ | ⟨b', st', hL', hf, hs, hw⟩
        · exact absurd rfl hne
        · rw [hL] at hL'
          obtain ⟨rfl, rfl⟩ := Prod.mk.inj (Option.some.inj hL')
          rw [hv, Nat.zero_mul]
          refine ⟨[b], .own (s := st) ⟨hf, hne, hs, hcap, fun j hj => hcs j (by simpa using hj), fun i r hi j x hj => ?_⟩ t, ⟨fun _ => by simp, fun b' hb' => ?_⟩⟩
          · obtain ⟨u, hu, hru⟩ := hw i r hi j x hj
            exact ⟨u, hu, RF.mono (fun _ _ => rfl) hFn (hru.to_RF (hall r (List.mem_of_getElem? hi) x (List.mem_of_getElem? hj)))⟩
          · simp at hb'; subst hb'
            exact ⟨id, by simp, by rw [hlk]; rfl, st, hL⟩
      · have : rows = [] := List.eq_nil_of_length_eq_zero h0
        subst this
        rw [hv, h00]
        exact ⟨[], .own0 t, ⟨fun _ => List.nodup_nil, fun b hb => by simp at hb⟩⟩
    · cases ho
  case ref.fz id off len r' =>
    split at ho
    · rename_i rows hlk
      obtain ⟨rfl, rfl, rfl⟩ : ((rows.drop off).take len = r' ∧ AllF rows) = p ∧ [] = os ∧ [id] = fs := by simpa using ho
      obtain ⟨rfl, hall⟩ := hp
      refine ⟨fun {cs vs bs} t => ⟨[], .fz ?_ t, nilOK⟩, fun i hi => by simp at hi; subst hi; rw [hlk]; rfl⟩
      obtain ⟨bb, cap, hv, hle, hx⟩ := hc.2 rows hlk
      have hlen : ((rows.drop off).take len).length = len := by simp; omega
      by_cases hn : len = 0
      · subst hn; rw [hv]; exact .nilz _ _
      · obtain ⟨b, st, cap', hL, hv', _, hcap, _, _, hs, hw⟩ := ref_row h hc hlk hn
        rw [hv']
        have := RF.mk (w := w) (F := outF sh A F L fs0) (rows := (rows.drop off).take len) (a := some ⟨b, off * st, none⟩) (cap := cap') (by omega) (fun _ => ⟨b, off * st, st, rfl, .inr (.inl ⟨id, hfs id (by simp), st, hL⟩), fun r hr => hs r (List.mem_of_mem_drop (List.mem_of_mem_take hr)), fun i j r c hi hj => by
          rw [List.getElem?_take] at hi
          split at hi
          · rw [List.getElem?_drop] at hi
            obtain ⟨u, hu, hru⟩ := hw _ r hi j c hj
            refine ⟨u, ?_, RF.mono (fun _ _ => rfl) hFn (hru.to_RF (hall r (List.mem_of_getElem? hi) c (List.mem_of_getElem? hj)))⟩
            rw [← hu]; congr 2; rw [Nat.add_mul]; omega
          · cases hi⟩)
        rwa [hlen] at this
    · cases ho

theorem outL_ok {w0 : World} {wr : Wr} {A : Nat → Prop} {L : Lay} {F : FF} {s : S} {a : Act} {w : World} (h : Rl w0 wr A L F s a w) {sh : Bool} {fs0 : List Nat} : ∀ {cs ds : List MC} {p : Prop} {os fs : List Nat} {vs : List Value},
    cs.length = vs.length → (∀ (j : Nat) (c : MC), cs[j]? = some c → ∃ u : Value, vs[j]? = some u ∧ RC (look s.st) L w F c u) → outL sh s cs ds = some (p, os, fs) → p → (∀ i ∈ fs, i ∈ fs0) →
    ∃ bs, OC w (outF sh A F L fs0) ds vs bs ∧ OutOK w (outF sh A F L fs0) L s os bs ∧ ∀ i ∈ fs, (look s.st i).isSome = true
  | [], ds, p, os, fs, vs, hl, hc, ho, hp, hfs => by
    cases ds with
    | nil =>
      obtain ⟨rfl, rfl, rfl⟩ : True = p ∧ [] = os ∧ [] = fs := by simpa [outL] using ho
      obtain rfl : vs = [] := List.eq_nil_of_length_eq_zero (by simpa using hl.symm)
      exact ⟨[], .nil, ⟨fun _ => List.nodup_nil, fun b hb => by simp at hb⟩, fun i hi => by simp at hi⟩
    | cons d ds => simp [outL] at ho
  | c :: cs, ds, p, os, fs, vs, hl, hc, ho, hp, hfs => by
    cases ds with
    | nil => simp [outL] at ho
    | cons d ds =>
      simp only [outL] at ho
      split at ho
      · rename_i p1 i1 j1 q1 k1 l1 h1 h2
        obtain ⟨rfl, rfl, rfl⟩ : (p1 ∧ q1) = p ∧ i1 ++ k1 = os ∧ j1 ++ l1 = fs := by simpa using ho
        cases vs with
        | nil => simp at hl
        | cons v vs =>
          obtain ⟨bs, ht, hto, hts⟩ := outL_ok h (vs := vs) (by simpa using hl) (fun j c' hj => hc (j + 1) c' hj) h2 hp.2 (fun i hi => hfs i (List.mem_append.2 (.inr hi)))
          obtain ⟨u, hu, hr⟩ := hc 0 c rfl
          obtain rfl : v = u := by simpa using hu
          obtain ⟨hk, hs1⟩ := outC_ok h hr h1 hp.1 (fun i hi => hfs i (List.mem_append.2 (.inl hi)))
          obtain ⟨b1, hoc, hb1⟩ := hk ht
          refine ⟨b1 ++ bs, hoc, ⟨fun hn => ?_, fun b hb => ?_⟩, fun i hi => ?_⟩
          · obtain ⟨n1, n2, n3⟩ := List.nodup_append.1 hn
            refine List.nodup_append.2 ⟨hb1.nd n1, hto.nd n2, fun b hb b' hb' e => ?_⟩
            subst e
            obtain ⟨i, hi, si, t1, hL1⟩ := hb1.src b hb
            obtain ⟨j, hj, sj, t2, hL2⟩ := hto.src b hb'
            exact n3 i hi j hj (h.inj i j b t1 t2 si sj hL1 hL2)
          · rcases List.mem_append.1 hb with hb | hb
            · obtain ⟨i, hi, r⟩ := hb1.src b hb; exact ⟨i, List.mem_append.2 (.inl hi), r⟩
            · obtain ⟨i, hi, r⟩ := hto.src b hb; exact ⟨i, List.mem_append.2 (.inr hi), r⟩
          · rcases List.mem_append.1 hi with hi | hi
            · exact hs1 i hi
            · exact hts i hi
      · cases ho

theorem outV1_ok {w0 : World} {wr : Wr} {A : Nat → Prop} {L : Lay} {F : FF} {s : S} {a : Act} {w : World} (h : Rl w0 wr A L F s a w) {sh : Bool} {fs0 : List Nat} {x y : MV} {p : Prop} {os fs : List Nat} {v : Value}
    (hx : RV1 (look s.st) L w F x v) (ho : outV1 sh s x y = some (p, os, fs)) (hp : p) (hfs : ∀ i ∈ fs, i ∈ fs0) :
    ∃ bs, OV1 w (outF sh A F L fs0) y v bs ∧ OutOK w (outF sh A F L fs0) L s os bs ∧ ∀ i ∈ fs, (look s.st i).isSome = true := by
  cases x <;> cases y <;> simp only [outV1] at ho
  all_goals try (cases ho; done)
  case one.one c d =>
    exact outL_ok h (cs := [c]) (vs := [v]) rfl (fun j c' hj => by
      cases j with
      | zero => obtain rfl := Option.some.inj hj; exact ⟨v, rfl, hx⟩
      | succ j => simp at hj) ho hp hfs
  case agg.agg cs ds =>
    obtain ⟨arr, rfl, h1, h2⟩ := hx
    obtain ⟨bs, g1, g2, g3⟩ := outL_ok h (cs := cs) (vs := arr.toList) (by simp [h1]) (fun j c hj => by
      obtain ⟨u, hu, hr⟩ := h2 j c hj; exact ⟨u, by simpa using hu, hr⟩) ho hp hfs
    exact ⟨bs, ⟨arr, rfl, g1⟩, g2, g3⟩

theorem outT_ok {w0 : World} {wr : Wr} {A : Nat → Prop} {L : Lay} {F : FF} {s : S} {a : Act} {w : World} (h : Rl w0 wr A L F s a w) {sh : Bool} {fs0 : List Nat} : ∀ {cs ds : List MV} {p : Prop} {os fs : List Nat} {vs : List Value},
    cs.length = vs.length → (∀ (j : Nat) (c : MV), cs[j]? = some c → ∃ u : Value, vs[j]? = some u ∧ RV (look s.st) L w F c u) → outT sh s cs ds = some (p, os, fs) → p → (∀ i ∈ fs, i ∈ fs0) →
    ∃ bs, OT w (outF sh A F L fs0) ds vs bs ∧ OutOK w (outF sh A F L fs0) L s os bs ∧ ∀ i ∈ fs, (look s.st i).isSome = true
  | [], ds, p, os, fs, vs, hl, hc, ho, hp, hfs => by
    cases ds with
    | nil =>
      obtain ⟨rfl, rfl, rfl⟩ : True = p ∧ [] = os ∧ [] = fs := by simpa [outT] using ho
      obtain rfl : vs = [] := List.eq_nil_of_length_eq_zero (by simpa using hl.symm)
      exact ⟨[], .nil, ⟨fun _ => List.nodup_nil, fun b hb => by simp at hb⟩, fun i hi => by simp at hi⟩
    | cons d ds => simp [outT] at ho
  | c :: cs, ds, p, os, fs, vs, hl, hc, ho, hp, hfs => by
    cases ds with
    | nil => simp [outT] at ho
    | cons d ds =>
      simp only [outT] at ho
      split at ho
      · rename_i p1 i1 j1 q1 k1 l1 h1 h2
        obtain ⟨rfl, rfl, rfl⟩ : (p1 ∧ q1) = p ∧ i1 ++ k1 = os ∧ j1 ++ l1 = fs := by simpa using ho
        cases vs with
        | nil => simp at hl
        | cons v vs =>
          obtain ⟨bs, ht, hto, hts⟩ := outT_ok h (vs := vs) (by simpa using hl) (fun j c' hj => hc (j + 1) c' hj) h2 hp.2 (fun i hi => hfs i (List.mem_append.2 (.inr hi)))
          obtain ⟨u, hu, hr⟩ := hc 0 c rfl
          obtain rfl : v = u := by simpa using hu
          have hr1 : RV1 (look s.st) L w F c v := by cases c <;> first | exact hr | (simp [outV1] at h1)
          obtain ⟨b1, hoc, hb1, hs1⟩ := outV1_ok h hr1 h1 hp.1 (fun i hi => hfs i (List.mem_append.2 (.inl hi)))
          refine ⟨b1 ++ bs, .cons hoc ht, ⟨fun hn => ?_, fun b hb => ?_⟩, fun i hi => ?_⟩
          · obtain ⟨n1, n2, n3⟩ := List.nodup_append.1 hn
            refine List.nodup_append.2 ⟨hb1.nd n1, hto.nd n2, fun b hb b' hb' e => ?_⟩
            subst e
            obtain ⟨i, hi, si, t1, hL1⟩ := hb1.src b hb
            obtain ⟨j, hj, sj, t2, hL2⟩ := hto.src b hb'
            exact n3 i hi j hj (h.inj i j b t1 t2 si sj hL1 hL2)
          · rcases List.mem_append.1 hb with hb | hb
            · obtain ⟨i, hi, r⟩ := hb1.src b hb; exact ⟨i, List.mem_append.2 (.inl hi), r⟩
            · obtain ⟨i, hi, r⟩ := hto.src b hb; exact ⟨i, List.mem_append.2 (.inr hi), r⟩
          · rcases List.mem_append.1 hi with hi | hi
            · exact hs1 i hi
            · exact hts i hi
      · cases ho

/-- The results of a function that ends in a state. -/
def outR (T : Tab) (sh : Bool) (s : S) (rs : List ResultVar) (r : MV) : Option (Prop × List Nat × List Nat) :=
  match resL T s rs with
  | some (p, [v]) => (outV1 sh s v r).map fun q => (p ∧ q.1, q.2)
  | some (p, vs) => match r with
    | .tup xs => (outT sh s vs xs).map fun q => (p ∧ q.1, q.2)
    | _ => none
  | none => none

/-- THE END: what the results read as. -/
def Ends (T : Tab) (sh : Bool) (fn : Func) (r : MV) (s : S) : Prop :=
  ∃ p os fs, outR T sh s fn.results.toList r = some (p, os, fs) ∧ p ∧ os.Nodup ∧ ∀ i ∈ os, i ∉ fs

theorem results_list (fn : Func) (tmps : Array Value) : results fn tmps = (do let vs ← fn.results.mapM (resS tmps); pure (if h : vs.size = 1 then vs[0] else .tuple vs)) := by
  unfold results
  congr 2

theorem ends_ok {w : World} {A : Nat → Prop} {L : Lay} {F : FF} {s : S} {a : Act} {w' : World} (hT : TOk P T) (h : Rl w ⟨fun _ => False, 0, fun _ => none, fun _ => False⟩ A L F s a w') (hA : ∀ b, A b → b < w.heap.size) {sh : Bool} {fn : Func} {r : MV} (he : Ends T sh fn r s) :
    ∃ v, (results fn a.tmps).run P w' = .ok v w' ∧ ∃ (G : Nat → Prop) (bs : List Nat), Below w.heap.size w w' ∧ (∀ b, G b → b < w'.heap.size ∧ (w.heap.size ≤ b ∨ (sh = true ∧ A b))) ∧
      OV w' G r v bs ∧ bs.Nodup ∧ ∀ b ∈ bs, w.heap.size ≤ b ∧ b < w'.heap.size ∧ ¬ G b := by
  obtain ⟨p, os, fs, ho, hp, hnd, hdis⟩ := he
  have hbel : Below w.heap.size w w' := ⟨h.os, h.tape, h.output, h.size, fun k hk => h.keep k hk (fun x => x)⟩
  have hG : (∀ i ∈ fs, (look s.st i).isSome = true) → ∀ b, outF sh A F L fs b → b < w'.heap.size ∧ (w.heap.size ≤ b ∨ (sh = true ∧ A b)) := fun hlive b hb => by
    rcases hb with hb | ⟨id, hid, t, hL⟩ | ⟨hs, hb⟩
    · exact ⟨h.fsz b (.inl hb), .inl ((h.fn b hb).resolve_right (fun x => x.elim id id))⟩
    · have := h.own id b t (hlive id hid) hL
      exact ⟨this.2.1, .inl (this.2.2.resolve_right (fun x => x))⟩
    · exact ⟨Nat.lt_of_lt_of_le (hA b hb) h.size, .inr ⟨hs, hb⟩⟩
  have hB : ∀ {bs : List Nat}, OutOK w' (outF sh A F L fs) L s os bs → (∀ i ∈ fs, (look s.st i).isSome = true) → bs.Nodup ∧ ∀ b ∈ bs, w.heap.size ≤ b ∧ b < w'.heap.size ∧ ¬ outF sh A F L fs b := fun {bs} hok hlive => by
    refine ⟨hok.nd hnd, fun b hb => ?_⟩
    obtain ⟨id, hid, hsome, t, hL⟩ := hok.src b hb
    have := h.own id b t hsome hL
    have hge := this.2.2.resolve_right (fun x => x)
    refine ⟨hge, this.2.1, ?_⟩
    rintro (hf | ⟨id', hid', t', hL'⟩ | ⟨_, hf⟩)
    · exact this.1 (.inl hf)
    · exact hdis id hid (h.inj id id' b t t' hsome (hlive id' hid') hL hL' ▸ hid')
    · have := hA b hf; omega
  have harr : ∀ {us : List Value}, (fn.results.toList.mapM (resS a.tmps)).run P w' = .ok us w' → (results fn a.tmps).run P w' = .ok (if h : us.toArray.size = 1 then us.toArray[0] else .tuple us.toArray) w' := fun {us} hu => by
    rw [results_list]
    have : ∀ arr : Array ResultVar, arr.mapM (resS a.tmps) = List.toArray <$> arr.toList.mapM (resS a.tmps) := fun arr => by
      cases arr; exact List.mapM_toArray
    rw [Sem.run_bind, this, Sem.run_map, hu]
    rfl
  unfold outR at ho
  split at ho
  · rename_i p1 v1 hres
    obtain ⟨q, hq, hqe⟩ := Option.map_eq_some_iff.1 ho
    obtain ⟨rfl, rfl, rfl⟩ : (p1 ∧ q.1) = p ∧ q.2.1 = os ∧ q.2.2 = fs := by
      have := Prod.mk.inj hqe; exact ⟨this.1, congrArg Prod.fst this.2, congrArg Prod.snd this.2⟩
    obtain ⟨us, hus, hlen, hr⟩ := resL_ok hT h hres hp.1
    obtain ⟨u, hu, hru⟩ := hr 0 v1 rfl
    have hus1 : us = [u] := by
      cases us with
      | nil => simp at hlen
      | cons x t =>
        obtain rfl : x = u := by simpa using hu
        have : t = [] := List.eq_nil_of_length_eq_zero (by simpa using hlen)
        rw [this]
    subst hus1
    have hru1 : RV1 (look s.st) L w' F v1 u := by
      cases v1 <;> first | exact hru | (simp [outV1] at hq)
    obtain ⟨bs, g1, g2, g3⟩ := outV1_ok h (fs0 := q.2.2) hru1 (p := q.1) (os := q.2.1) (fs := q.2.2) hq hp.2 (fun i hi => hi)
    refine ⟨u, by simpa using harr hus, outF sh A F L q.2.2, bs, hbel, hG g3, ?_, hB g2 g3⟩
    cases r <;> first | exact g1 | exact g1.elim
  · rename_i p1 vs hne hres
    split at ho
    · rename_i xs
      obtain ⟨q, hq, hqe⟩ := Option.map_eq_some_iff.1 ho
      obtain ⟨rfl, rfl, rfl⟩ : (p1 ∧ q.1) = p ∧ q.2.1 = os ∧ q.2.2 = fs := by
        have := Prod.mk.inj hqe; exact ⟨this.1, congrArg Prod.fst this.2, congrArg Prod.snd this.2⟩
      obtain ⟨us, hus, hlen, hr⟩ := resL_ok hT h hres hp.1
      have hone : us.toArray.size ≠ 1 := fun e => by
        have : vs.length = 1 := by rw [← hlen]; simpa using e
        obtain ⟨v, rfl⟩ := List.length_eq_one_iff.1 this
        exact hne v rfl
      obtain ⟨bs, g1, g2, g3⟩ := outT_ok h (fs0 := q.2.2) (vs := us) hlen.symm hr (p := q.1) (os := q.2.1) (fs := q.2.2) hq hp.2 (fun i hi => hi)
      refine ⟨.tuple us.toArray, by have := harr hus; rwa [dif_neg hone] at this, outF sh A F L q.2.2, bs, hbel, hG g3, ⟨us.toArray, rfl, by simpa using g1⟩, hB g2 g3⟩
    · cases ho
  · cases ho

/-- A FUNCTION's CONTRACT out of its body. -/
theorem Pure.of {sh : Bool} {f : Nat} {fn : Func} {c : Code} {args : List MV} {r : MV} (hT : TOk P T) (hf : P.funcs[f]? = some fn) (hn : (fn.name == "runtime.NumGoroutine") = false) (hb : fn.body = some c) (hm : args.length ≤ fn.ntmps)
    (h : W 0 P c (S.start fn.ntmps args) fun e s => (e = .normal ∨ e = .ret) ∧ Ends T sh fn r s) : Pure P sh f args r := by
  refine ⟨⟨fn, hf, hn, by rw [hb]; rfl⟩, ?_⟩
  intro w A vals hs hv hA
  refine calls_of_wp hf hb (wp_mono (h w ⟨fun _ => False, 0, fun _ => none, fun _ => False⟩ A _ w rfl (start_rel hs hm hv hA)) fun e a w' ⟨s, ⟨L, F, hr⟩, he, hend⟩ => ?_)
  obtain ⟨v, hres, G, bs, h1, h2, h3, h4, h5⟩ := ends_ok hT hr hA hend
  have : a.defers = [] ∧ ∃ v, (results fn a.tmps).run P w' = .ok v w' ∧ ∃ (v' : Value) (F : Nat → Prop) (bs : List Nat), Ending.returned v = .returned v' ∧ Below w.heap.size w w' ∧
      (∀ b, F b → b < w'.heap.size ∧ (w.heap.size ≤ b ∨ (sh = true ∧ A b))) ∧ OV w' F r v' bs ∧ bs.Nodup ∧ ∀ b ∈ bs, w.heap.size ≤ b ∧ b < w'.heap.size ∧ ¬ F b :=
    ⟨hr.df, v, hres, v, G, bs, rfl, h1, h2, h3, h4, h5⟩
  rcases he with rfl | rfl
  · exact this
  · exact this

end Mg
