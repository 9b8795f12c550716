/- Parts of the abstract state logic and of the walks, one behind the other: Mg26, Mg27, Mg28, Mg35, Mg34, Mg36. No condition. -/
import Derived.Test.YtedgmfmhilihoaaGreatP11
import Derived.Test.YtedgmfmhilihoaaGreatP6
/- The abstract state logic, part 26: a contract with objects out of the body. No condition. -/
namespace Mg
open Go Go.RowKit
set_option linter.unusedVariables false

variable {P : Program} {T : Tab}

def obFrom : Nat → List Ob → List (Nat × Ob)
  | _, [] => []
  | k, o :: os => (k, o) :: obFrom (k + 1) os
theorem look_obFrom : ∀ (os : List Ob) (k j : Nat), look (obFrom k os) j = if k ≤ j then os[j - k]? else none
  | [], k, j => by simp [obFrom]
  | x :: xs, k, j => by
    rw [obFrom, look_cons, look_obFrom xs (k + 1) j]
    by_cases e : j = k
    · subst e; simp
    · by_cases h : k ≤ j
      · rw [if_neg e, if_pos (by omega), if_pos h, show j - k = (j - (k + 1)) + 1 by omega, List.getElem?_cons_succ]
      · rw [if_neg e, if_neg (by omega), if_neg h]
theorem look_ob (os : List Ob) : look (obFrom 0 os) = nth os := funext fun j => by rw [look_obFrom]; simp [nth]
def mvFrom : Nat → List MV → List (Nat × MV)
  | _, [] => []
  | k, x :: xs => (k, x) :: mvFrom (k + 1) xs
theorem look_mvFrom : ∀ (xs : List MV) (k j : Nat), look (mvFrom k xs) j = if k ≤ j then xs[j - k]? else none
  | [], k, j => by simp [mvFrom]
  | x :: xs, k, j => by
    rw [mvFrom, look_cons, look_mvFrom xs (k + 1) j]
    by_cases e : j = k
    · subst e; simp
    · by_cases h : k ≤ j
      · rw [if_neg e, if_pos (by omega), if_pos h, show j - k = (j - (k + 1)) + 1 by omega, List.getElem?_cons_succ]
      · rw [if_neg e, if_neg (by omega), if_neg h]

def S.from (m : Nat) (args : List MV) (os : List Ob) : S := ⟨m, os.length, mvFrom 0 args, obFrom 0 os⟩
def tmps0 (m : Nat) (vals : Array Value) : Act := { tmps := vals ++ Array.replicate (m - vals.size) undef, defers := [] }
theorem tmps0_get {m : Nat} {vals : Array Value} {t : Nat} {u : Value} (h : vals[t]? = some u) : (tmps0 m vals).tmps.getD t undef = u := by
  have hlt : t < vals.size := (Array.getElem?_eq_some_iff.1 h).1
  have h2 : vals[t] = u := (Array.getElem?_eq_some_iff.1 h).2
  simp [tmps0, Array.getElem?_append_left hlt, hlt, h2]

def wrOf (L : Lay) (k : Nat) (A : Nat → Prop) : Wr := ⟨fun b => ∃ i t, i < k ∧ L i = some (b, t), k, L, A⟩

theorem from_rel {w : World} {N A : Nat → Prop} {L : Lay} {vals : Array Value} {args : List MV} {os : List Ob} {m : Nat} (hs : vals.size = args.length) (hm : args.length ≤ m) (hA : ∀ b, A b → b < w.heap.size) (hN : ∀ b, N b → A b)
    (hobs : ObsOK w ⟨N, A⟩ L os) (h : ∀ (j : Nat) (x : MV), args[j]? = some x → ∃ v : Value, vals[j]? = some v ∧ RV (nth os) L w ⟨N, A⟩ x v ∧ x.bd os.length) :
    Rl w (wrOf L os.length N) A L ⟨N, A⟩ (S.from m args os) (tmps0 m vals) w := by
  have hl : look (S.from m args os).st = nth os := look_ob os
  have hlt : ∀ i o, nth os i = some o → i < os.length := fun i o ho => (List.getElem?_eq_some_iff.1 ho).1
  have hsm : ∀ i, (nth os i).isSome = true → i < os.length := fun i hi => by
    obtain ⟨o, ho⟩ := Option.isSome_iff_exists.1 hi; exact hlt i o ho
  refine ⟨rfl, rfl, rfl, Nat.le_refl _, fun _ _ _ => rfl, fun _ _ _ h => h, fun i hi => ⟨rfl, hi⟩, rfl, fun b hb => .inr (.inr hb), fun b hb => hb.elim (fun h => hA b (hN b h)) (hA b), ?_, ?_, ?_, ?_, ?_, ?_, ?_, rfl⟩
  · intro i o ho; rw [hl] at ho ⊢; exact hobs.ob i o ho
  · intro i b t h1 h2
    rw [hl] at h1
    have := hobs.nf i b t (hsm i h1) h2
    exact ⟨this.1, this.2, .inr ⟨i, t, hsm i h1, h2⟩⟩
  · intro i j b t u h1 h2 h3 h4
    rw [hl] at h1 h2
    exact hobs.inj i j b t u (hsm i h1) (hsm j h2) h3 h4
  · simp [tmps0, S.from]; omega
  · intro t v hv
    have hv : look (mvFrom 0 args) t = some v := hv
    rw [look_mvFrom] at hv
    obtain ⟨u, hu, hr, _⟩ := h t v (by simpa using hv)
    rw [hl, tmps0_get hu]
    exact hr
  · intro i o ho
    rw [hl] at ho
    exact ⟨hlt i o ho, hobs.bd o (List.mem_of_getElem? ho)⟩
  · intro t v hv
    have hv : look (mvFrom 0 args) t = some v := hv
    rw [look_mvFrom] at hv
    obtain ⟨u, _, _, hb⟩ := h t v (by simpa using hv)
    exact hb

/- ------------------------------------------------ the end -/
def frzC (s : S) (fs : List Nat) : MC → MC
  | .ref id off len => match fs.contains id, look s.st id with
    | true, some (.arr rows) => .fz ((rows.drop off).take len)
    | _, _ => .ref id off len
  | .nil => .fz []
  | c => c
def frzV (s : S) (fs : List Nat) : MV → MV
  | .one c => .one (frzC s fs c)
  | .agg cs => .agg (cs.map (frzC s fs))
  | v => v
def flatV : MV → Bool
  | .one _ => true
  | .agg _ => true
  | _ => false
def outV (T : Tab) (s : S) (rs : List ResultVar) : Option (Prop × List MV) := resL T s rs
/-- A result, as the slots of the last state. -/
def resOf : MV → List MV
  | .tup xs => xs
  | x => [x]
def bdV1 (n : Nat) : MV → Prop
  | .one c => bdC n c
  | .agg cs => bdL n cs
  | _ => False
def bdVs (n : Nat) : List MV → Prop
  | [] => True
  | v :: vs => bdV1 n v ∧ bdVs n vs
theorem bdVs_ok {n : Nat} : ∀ {vs : List MV}, bdVs n vs → ∀ v ∈ vs, v.bd n ∧ flatV v = true
  | [], _, v, hv => by simp at hv
  | x :: xs, h, v, hv => by
    rcases List.mem_cons.1 hv with rfl | hv
    · have h1 := h.1
      cases v <;> first | exact ⟨bdC_ok h1, rfl⟩ | exact ⟨bdL_ok h1, rfl⟩ | exact h1.elim
    · exact bdVs_ok h.2 v hv

theorem frzV_ok {w : World} {L : Lay} {F F' : FF} {s : S} {fs : List Nat} (hrc : ∀ x u, RC (look s.st) L w F x u → RC (look (s.dels fs).st) L w F' x u)
    (hfz : ∀ id ∈ fs, ∀ rows, look s.st id = some (.arr rows) → ∀ off len v, RC (look s.st) L w F (.ref id off len) v → RF w F'.n (.fz ((rows.drop off).take len)) v) {x : MV} {u : Value} (hf : flatV x = true) (h : RV (look s.st) L w F x u) :
    RV1 (look (s.dels fs).st) L w F' (frzV s fs x) u := by
  have hc : ∀ c u, RC (look s.st) L w F c u → RC (look (s.dels fs).st) L w F' (frzC s fs c) u := fun c u hr => by
    cases c <;> try exact hrc _ u hr
    case ref id off len =>
      simp only [frzC]
      split
      · rename_i rows h1 h2
        exact hfz id (by simpa using h1) rows h2 off len u hr
      · exact hrc _ u hr
    case nil =>
      obtain ⟨a, rfl⟩ := hr
      exact RF.nilz a 0
  cases x with
  | one c => exact hc c u h
  | agg cs =>
    obtain ⟨arr, rfl, h1, h2⟩ := h
    refine ⟨arr, rfl, by simpa using h1, fun j c hj => ?_⟩
    rw [List.getElem?_map] at hj
    obtain ⟨d, hd, rfl⟩ := Option.map_eq_some_iff.1 hj
    obtain ⟨v, hv, hr⟩ := h2 j d hd
    exact ⟨v, hv, hc d v hr⟩
  | _ => simp [flatV] at hf

/-- What the last state must be, reckoned. -/
def conEnd (T : Tab) (k : Nat) (fn : Func) {D : Type} (p : D → Prop) (r : D → MV) (os' : D → List Ob) (s : S) : Prop :=
  match resL T s fn.results.toList with
  | some (q, vs) => Side q ∧ ∃ (d : D) (bl : List (Nat × Nat)) (fs : List Nat), p d ∧ Chk (decide fs.Nodup) ∧ (match passF s fs with
    | some qf => Side qf
    | none => False) ∧ bdVs s.n (vs.map (frzV s fs)) ∧ Chk (Nat.ble vs.length s.m && Nat.ble k (os' d).length && Nat.beq (resOf (r d)).length vs.length && (match r d with | .tup _ => !(Nat.beq vs.length 1) | _ => true)) ∧ bdVs (os' d).length (resOf (r d)) ∧
      subC k bl ⟨s.m, (os' d).length, mvFrom 0 (resOf (r d)), obFrom 0 (os' d)⟩ ⟨s.m, s.n, mvFrom 0 (vs.map (frzV s fs)), delL s.st fs⟩
  | none => False

def conE (T : Tab) (k : Nat) (fn : Func) {D : Type} (p : D → Prop) (r : D → MV) (os' : D → List Ob) : Exit → S → Prop
  | .normal, s => conEnd T k fn p r os' s
  | .ret, s => conEnd T k fn p r os' s
  | _, _ => False

theorem Rl.unpin {w0 : World} {wr : Wr} {A : Nat → Prop} {L : Lay} {F : FF} {s : S} {a : Act} {w : World} (h : Rl w0 wr A L F s a w) {k : Nat} (hk : k ≤ wr.k) : Rl w0 { wr with k := k } A L F s a w :=
  ⟨h.os, h.tape, h.output, h.size, h.keep, h.kc, fun i hi => h.pin i (Nat.lt_of_lt_of_le hi hk), h.fa, h.fn, h.fsz, h.ob, h.own, h.inj, h.sz, h.env, h.bst, h.ben, h.df⟩

theorem conEnd_ok {w : World} {N A : Nat → Prop} {L L1 : Lay} {F : FF} {s : S} {a : Act} {w' : World} {m k : Nat} (hkm : k ≤ m) (hT : TOk P T) (h : Rl w (wrOf L m N) A L1 F s a w') {fn : Func} {D : Type} {p : D → Prop} {r : D → MV} {os' : D → List Ob} (he : conEnd T k fn p r os' s) :
    ∃ v, (results fn a.tmps).run P w' = .ok v w' ∧ ∃ (d : D) (L' : Lay) (F' : Nat → Prop), p d ∧ ConPost w N A L m k (r d) (os' d) v w' L' F' := by
  unfold conEnd at he
  split at he
  case h_2 => exact he.elim
  rename_i q vs hres
  obtain ⟨⟨hq⟩, d, bl, fs, hpd, ⟨hnd⟩, hpf, hbd, ⟨hchk⟩, hbr, hsub⟩ := he
  split at hpf
  case h_2 => exact hpf.elim
  rename_i qf hpf'
  simp only [Bool.and_eq_true] at hchk
  obtain ⟨⟨⟨hc1, hc2⟩, hc3⟩, hc4⟩ := hchk
  have hc1 := Nat.le_of_ble_eq_true hc1
  have hc2 := Nat.le_of_ble_eq_true hc2
  have hc3 := Nat.eq_of_beq_eq_true hc3
  obtain ⟨us, hus, hlen, hr⟩ := resL_ok hT h hres hq
  have harr : (results fn a.tmps).run P w' = .ok (if h : us.toArray.size = 1 then us.toArray[0] else .tuple us.toArray) w' := by
    rw [results_list]
    have : ∀ arr : Array ResultVar, arr.mapM (resS a.tmps) = List.toArray <$> arr.toList.mapM (resS a.tmps) := fun arr => by
      cases arr; exact List.mapM_toArray
    rw [Sem.run_bind, this, Sem.run_map, hus]
    rfl
  refine ⟨_, harr, d, ?_⟩
  obtain ⟨F2, hR2, hle, hrc, hout, hfz⟩ := frz_all fs h (of_decide_eq_true hnd) (passF_ok hpf' hpf.h)
  have hvb := bdVs_ok hbd
  -- the last state, with the results in the slots
  have hR3 : Rl w (wrOf L m N) A L1 F2 ⟨s.m, s.n, mvFrom 0 (vs.map (frzV s fs)), delL s.st fs⟩ (tmps0 s.m us.toArray) w' := by
    refine ⟨hR2.os, hR2.tape, hR2.output, hR2.size, hR2.keep, hR2.kc, hR2.pin, hR2.fa, hR2.fn, hR2.fsz, hR2.ob, hR2.own, hR2.inj, ?_, ?_, hR2.bst, ?_, rfl⟩
    · simp [tmps0]; omega
    · intro t v hv
      have hv : look (mvFrom 0 (vs.map (frzV s fs))) t = some v := hv
      rw [look_mvFrom] at hv
      obtain ⟨x, hx, rfl⟩ := Option.map_eq_some_iff.1 (by simpa using hv : (vs[t]?).map (frzV s fs) = some v)
      obtain ⟨u, hu, hru⟩ := hr t x hx
      have hfl : flatV x = true := by
        have := (hvb (frzV s fs x) (List.mem_map.2 ⟨x, List.mem_of_getElem? hx, rfl⟩)).2
        cases x <;> first | rfl | (simp [frzV, flatV] at this)
      have := frzV_ok hrc hfz hfl hru
      rw [tmps0_get (u := u) (by simpa using hu)]
      cases hx' : frzV s fs x <;> rw [hx'] at this <;> first | exact this | (cases x <;> simp [frzV, flatV] at hfl hx')
    · intro t v hv
      have hv : look (mvFrom 0 (vs.map (frzV s fs))) t = some v := hv
      rw [look_mvFrom] at hv
      exact (hvb v (List.mem_of_getElem? (by simpa using hv))).1
  have hR4 := (hR3.unpin (k := k) hkm).ren (subC_ok hsub) (subC_pin hsub)
  have hF2 : F2 = ⟨F2.n, A⟩ := by
    have := hR4.fa
    cases F2; simp at this; rw [this]
  have hl : look (S.st ⟨s.m, (os' d).length, mvFrom 0 (resOf (r d)), obFrom 0 (os' d)⟩) = nth (os' d) := look_ob _
  have hlt : ∀ i o, nth (os' d) i = some o → i < (os' d).length := fun i o ho => (List.getElem?_eq_some_iff.1 ho).1
  have hsm : ∀ i, i < (os' d).length → (nth (os' d) i).isSome = true := fun i hi => by
    show ((os' d)[i]?).isSome = true; rw [List.getElem?_eq_getElem hi]; rfl
  have hpin := hR4.pin
  have hrbs := bdVs_ok hbr
  -- a block that was handed over is a kept object's, or it was used up
  have hold : ∀ b, (∃ i t, i < m ∧ L i = some (b, t)) → (∃ i t, i < k ∧ (nth (os' d) i).isSome = true ∧ L1 ((look bl i).getD i) = some (b, t)) ∨ ∃ j u, k ≤ j ∧ j < m ∧ L j = some (b, u) := fun b ⟨i, t, hi, hL⟩ => by
    by_cases hik : k ≤ i
    · exact .inr ⟨i, t, hik, hi, hL⟩
    · exact .inl ⟨i, t, by omega, hsm i (by omega), ((hpin i (by show i < k; omega)).1).trans hL⟩
  refine ⟨_, F2.n, hpd, ⟨hR4.os, hR4.tape, hR4.output, hR4.size, fun b hb hn => hR4.keep b hb (fun ⟨i, t, hi, hL⟩ => hn i t hi hL), hR4.kc, fun b hb hnA => ?_, hc2, fun i hi => (hpin i hi).1, fun i b t hi hlt' hL => ?_, ⟨fun i o ho => ?_, fun i j b t u hi hj h3 h4 => ?_, fun i b t hi h3 => ?_, fun o ho => ?_⟩, ?_, ?_⟩⟩
  · rcases hR4.fn b hb with h1 | h1 | h1
    · exact .inl ⟨h1, hR4.fsz b (.inl hb)⟩
    · rcases hold b h1 with ⟨i, t, hi, hs', hL⟩ | h2
      · exact absurd (.inl hb) (hR4.own i b t (by rw [hl]; exact hs') hL).1
      · exact .inr h2
    · exact absurd h1 hnA
  · have ho := hR4.own i b t (by rw [hl]; exact hsm i hlt') hL
    rcases ho.2.2 with h1 | h1
    · exact .inl h1
    · rcases hold b h1 with ⟨j, u, hj, hs', hLj⟩ | h2
      · have := hR4.inj i j b t u (by rw [hl]; exact hsm i hlt') (by rw [hl]; exact hs') hL hLj
        omega
      · exact .inr h2
  · have := hR4.ob i o (by rw [hl]; exact ho)
    rw [hl, hF2] at this; exact this
  · exact hR4.inj i j b t u (by rw [hl]; exact hsm i hi) (by rw [hl]; exact hsm j hj) h3 h4
  · have := hR4.own i b t (by rw [hl]; exact hsm i hi) h3
    rw [hF2] at this
    exact ⟨this.1, this.2.1⟩
  · obtain ⟨i, hi⟩ := List.getElem?_of_mem ho
    exact (hR4.bst i o (by rw [hl]; exact hi)).2
  · have hslot : ∀ j x, (resOf (r d))[j]? = some x → ∃ u, us[j]? = some u ∧ RV1 (nth (os' d)) (fun i => L1 ((look bl i).getD i)) w' ⟨F2.n, A⟩ x u := fun j x hj => by
      have hjl := (List.getElem?_eq_some_iff.1 hj).1
      have hju : j < us.length := by omega
      have := hR4.env j x (by
        show look (mvFrom 0 (resOf (r d))) j = _
        rw [look_mvFrom]; simpa using hj)
      rw [hl, hF2, tmps0_get (u := us[j]) (by simp [hju])] at this
      refine ⟨us[j], List.getElem?_eq_getElem hju, ?_⟩
      have hfl := (hrbs x (List.mem_of_getElem? hj)).2
      cases x <;> first | exact this | (simp [flatV] at hfl)
    cases hrd : r d with
    | tup xs =>
      rw [hrd] at hslot hc3 hc4
      have hc4 : vs.length ≠ 1 := fun e => by rw [e] at hc4; cases hc4
      have hne : us.toArray.size ≠ 1 := by simpa [hlen] using hc4
      rw [dif_neg hne]
      exact ⟨us.toArray, rfl, (by show us.length = xs.length; rw [hlen]; exact hc3.symm), fun j x hj => by
        obtain ⟨u, hu, hx⟩ := hslot j x hj
        exact ⟨u, by simpa using hu, hx⟩⟩
    | one c =>
      rw [hrd] at hslot hc3
      have hc3 : 1 = vs.length := hc3
      obtain ⟨u, hu, hx⟩ := hslot 0 (.one c) rfl
      have h1 : us.toArray.size = 1 := by simp; omega
      rw [dif_pos h1]
      have : us[0]? = some u := hu
      have hu0 : us.toArray[0] = u := by
        have := (List.getElem?_eq_some_iff.1 hu).2; simpa using this
      rw [hu0]; exact hx
    | agg cs =>
      rw [hrd] at hslot hc3
      have hc3 : 1 = vs.length := hc3
      obtain ⟨u, hu, hx⟩ := hslot 0 (.agg cs) rfl
      have h1 : us.toArray.size = 1 := by simp; omega
      rw [dif_pos h1]
      have hu0 : us.toArray[0] = u := by
        have := (List.getElem?_eq_some_iff.1 hu).2; simpa using this
      rw [hu0]; exact hx
    | un =>
      rw [hrd] at hrbs
      have := (hrbs .un (by simp [resOf])).2
      simp [flatV] at this
  · cases hrd : r d with
    | tup xs =>
      rw [hrd] at hrbs
      intro x hx
      have := hrbs x hx
      cases x <;> first | exact this.1 | (simp [flatV] at this)
    | one c => rw [hrd] at hrbs; exact (hrbs (.one c) (by simp [resOf])).1
    | agg cs => rw [hrd] at hrbs; exact (hrbs (.agg cs) (by simp [resOf])).1
    | un => trivial

/-- A CONTRACT with objects, out of its reckoning. -/
theorem Con.vc {f : Nat} {fn : Func} {c : Code} {args : List MV} {os : List Ob} {D : Type} {p : D → Prop} {r : D → MV} {os' : D → List Ob} {k : Nat} (hs : List (Nat × Hint)) (hT : TOk P T) (hm : P.follows .mixedOrders = true) (hf : P.funcs[f]? = some fn) (hk : Nat.ble k os.length = true)
    (hn : (fn.name == "runtime.NumGoroutine") = false) (hb : fn.body = some c) (hl : Nat.ble args.length fn.ntmps = true)
    (h : fS (S.from fn.ntmps args os) fun s => Mg.vc os.length P T c hs s (conE T k fn p r os')) : Con P f args os k p r os' := by
  rw [fS_eq] at h
  refine ⟨⟨fn, hf, hn, by rw [hb]; rfl⟩, ?_⟩
  intro w N A L vals hsz hA hN hobs hv hgt
  refine calls_of_wp hf hb (wp_mono (vc_ok hT hm _ _ _ h w (wrOf L os.length N) A _ w ⟨rfl, hgt, hN⟩ ⟨_, _, from_rel hsz (Nat.le_of_ble_eq_true hl) hA hN hobs hv⟩) fun e a w' ⟨s, ⟨L1, F1, hr⟩, he⟩ => ?_)
  have key : conEnd T k fn p r os' s → a.defers = [] ∧ ∃ v, (results fn a.tmps).run P w' = .ok v w' ∧ ∃ (d : D) (v' : Value) (L' : Lay) (F : Nat → Prop), Ending.returned v = .returned v' ∧ p d ∧ ConPost w N A L os.length k (r d) (os' d) v' w' L' F := fun he => by
    obtain ⟨v, h1, d, L', F', h2, h3⟩ := conEnd_ok (Nat.le_of_ble_eq_true hk) hT hr he
    exact ⟨hr.df, v, h1, d, v, L', F', rfl, h2, h3⟩
  cases e <;> first | exact key he | exact he.elim

end Mg

/- The abstract state logic, part 27: a nil slice as an empty list of its own. No condition. -/
namespace Mg
open Go Go.RowKit
set_option linter.unusedVariables false

variable {P : Program} {T : Tab}

def S.vslot (s : S) (t : Nat) : Option S := match look s.env t with
  | some (.one .nil) => some { (s.app [] s.st) with env := (t, .one (.ref s.n 0 0)) :: s.env }
  | _ => none
def S.vbox (s : S) (b j : Nat) : Option S := match look s.st b with
  | some (.box cs) => match cs[j]? with
    | some .nil => some (s.app [] (upd s.st b (.box (cs.set j (.ref s.n 0 0)))))
    | _ => none
  | _ => none

theorem nil_ref {st : List (Nat × Ob)} {n : Nat} {L : Lay} {w : World} {F : FF} {v : Value} (h : ∃ a, v = .slice a 0 0) : RC (look ((n, .arr []) :: st)) L w F (.ref n 0 0) v := by
  obtain ⟨a, rfl⟩ := h
  refine ⟨rfl, fun rows hr => ⟨a, 0, rfl, by simp, .inr ⟨rfl, rfl⟩⟩⟩

theorem Rl.vslot {w0 : World} {wr : Wr} {A : Nat → Prop} {L : Lay} {F : FF} {s : S} {a : Act} {w : World} (h : Rl w0 wr A L F s a w) {t : Nat} {s' : S} (hs : s.vslot t = some s') : ∃ L', Rl w0 wr A L' F s' a w := by
  unfold S.vslot at hs
  split at hs
  case h_2 => cases hs
  rename_i he
  obtain rfl := Option.some.inj hs
  obtain ⟨L', h1, hn, hLo, hi⟩ := h.virt
  refine ⟨L', ⟨h1.os, h1.tape, h1.output, h1.size, h1.keep, h1.kc, h1.pin, h1.fa, h1.fn, h1.fsz, h1.ob, h1.own, h1.inj, h1.sz, fun t' v hv => ?_, h1.bst, fun t' v hv => ?_, h1.df⟩⟩
  · rw [show look ({ (s.app [] s.st) with env := (t, .one (.ref s.n 0 0)) :: s.env } : S).env t' = look ((t, .one (.ref s.n 0 0)) :: s.env) t' from rfl, look_cons] at hv
    by_cases e : t' = t
    · rw [if_pos e] at hv
      obtain rfl := Option.some.inj hv
      subst e
      have : RC (look s.st) L w F .nil (a.tmps.getD t' undef) := h.env t' _ he
      exact nil_ref (F := F) this
    · rw [if_neg e] at hv
      exact h1.env t' v hv
  · rw [show look ({ (s.app [] s.st) with env := (t, .one (.ref s.n 0 0)) :: s.env } : S).env t' = look ((t, .one (.ref s.n 0 0)) :: s.env) t' from rfl, look_cons] at hv
    by_cases e : t' = t
    · rw [if_pos e] at hv
      obtain rfl := Option.some.inj hv
      exact Nat.lt_succ_self s.n
    · rw [if_neg e] at hv
      exact h1.ben t' v hv

theorem Rl.vbox {w0 : World} {wr : Wr} {A : Nat → Prop} {L : Lay} {F : FF} {s : S} {a : Act} {w : World} (h : Rl w0 wr A L F s a w) {b j : Nat} {s' : S} (hs : s.vbox b j = some s') : ∃ L', Rl w0 wr A L' F s' a w := by
  unfold S.vbox at hs
  split at hs
  case h_2 => cases hs
  rename_i cs hb
  split at hs
  case h_2 => cases hs
  rename_i hj
  obtain rfl := Option.some.inj hs
  obtain ⟨L', h1, hn, hLo, hi⟩ := h.virt
  have hbn : b ≠ s.n := Nat.ne_of_lt (h.bst b _ hb).1
  have hb1 : look (s.app [] s.st).st b = some (.box cs) := by simp only [S.app, look_cons, if_neg hbn]; exact hb
  have hup : (s.app [] (upd s.st b (.box (cs.set j (.ref s.n 0 0))))).st = upd (s.app [] s.st).st b (.box (cs.set j (.ref s.n 0 0))) := by
    simp only [S.app, upd_cons, if_neg hbn]
  have hrc : ∀ x u, RC (look (s.app [] s.st).st) L' w F x u → RC (look (s.app [] (upd s.st b (.box (cs.set j (.ref s.n 0 0))))).st) L' w F x u := fun x u hr => by
    rw [hup]
    exact RC.set (o := .box cs) (o' := .box (cs.set j (.ref s.n 0 0))) hb1 trivial (fun _ _ => rfl) (fun _ _ _ _ _ _ h => h) hr
  have hlk : ∀ i o, look (s.app [] (upd s.st b (.box (cs.set j (.ref s.n 0 0))))).st i = some o → (i = b ∧ o = .box (cs.set j (.ref s.n 0 0))) ∨ (i ≠ b ∧ look (s.app [] s.st).st i = some o) := fun i o ho => by
    rw [hup, look_upd] at ho
    by_cases e : i = b
    · rw [if_pos ⟨e, by rw [hb1]; rfl⟩] at ho; exact .inl ⟨e, (Option.some.inj ho).symm⟩
    · rw [if_neg (fun hh => e hh.1)] at ho; exact .inr ⟨e, ho⟩
  have hsm : ∀ i, (look (s.app [] (upd s.st b (.box (cs.set j (.ref s.n 0 0))))).st i).isSome = true → (look (s.app [] s.st).st i).isSome = true := fun i hi => by
    obtain ⟨o, ho⟩ := Option.isSome_iff_exists.1 hi
    rcases hlk i o ho with ⟨rfl, _⟩ | ⟨_, h2⟩
    · rw [hb1]; rfl
    · rw [h2]; rfl
  refine ⟨L', ⟨h1.os, h1.tape, h1.output, h1.size, h1.keep, h1.kc, h1.pin, h1.fa, h1.fn, h1.fsz, fun i o ho => ?_, fun i k t g1 g2 => h1.own i k t (hsm i g1) g2, fun i k b' t u g1 g2 => h1.inj i k b' t u (hsm i g1) (hsm k g2), h1.sz, fun t v hv => (h1.env t v hv).imp (h1.ben t v hv) (fun x _ u hr => hrc x u hr), fun i o ho => ?_, h1.ben, h1.df⟩⟩
  · rcases hlk i o ho with ⟨rfl, rfl⟩ | ⟨_, h2⟩
    · obtain ⟨bb, t, g1, g2, g3⟩ := h1.ob i _ hb1
      refine ⟨bb, t, g1, g2, fun k x hk => ?_⟩
      rw [List.getElem?_set] at hk
      by_cases e : j = k
      · subst e
        rw [if_pos rfl] at hk
        have hlt : j < cs.length := (List.getElem?_eq_some_iff.1 hj).1
        rw [if_pos hlt] at hk
        obtain rfl := Option.some.inj hk
        obtain ⟨u, hu, hr⟩ := g3 j _ hj
        exact ⟨u, hu, nil_ref hr⟩
      · rw [if_neg e] at hk
        obtain ⟨u, hu, hr⟩ := g3 k x hk
        exact ⟨u, hu, hrc x u hr⟩
    · exact (h1.ob i o h2).imp (h1.bst i o h2).2 rfl (fun _ _ _ => rfl) (fun x _ u hr => hrc x u hr)
  · rcases hlk i o ho with ⟨rfl, rfl⟩ | ⟨_, h2⟩
    · refine ⟨(h1.bst i _ hb1).1, fun x hx => ?_⟩
      rcases List.mem_or_eq_of_mem_set hx with hx | rfl
      · exact (h1.bst i _ hb1).2 x hx
      · exact Nat.lt_succ_self s.n
    · exact h1.bst i o h2

theorem W.vslot {k : Nat} {c : Code} {s s' : S} {Q : Exit → S → Prop} (t : Nat) (hs : s.vslot t = some s') (h : W k P c s' Q) : W k P c s Q := fun w0 wr A a w hk ⟨L, F, hr⟩ => by
  obtain ⟨L', hr'⟩ := hr.vslot hs
  exact h w0 wr A a w hk ⟨L', F, hr'⟩
theorem W.vbox {k : Nat} {c : Code} {s s' : S} {Q : Exit → S → Prop} (b j : Nat) (hs : s.vbox b j = some s') (h : W k P c s' Q) : W k P c s Q := fun w0 wr A a w hk ⟨L, F, hr⟩ => by
  obtain ⟨L', hr'⟩ := hr.vbox hs
  exact h w0 wr A a w hk ⟨L', F, hr'⟩

def S.nfa (s : S) (id : Nat) : Option S := match look s.st id with
  | some (.arr rows) => some (s.set id (.arr (nfR rows)))
  | _ => none
theorem W.nf {P : Program} {k : Nat} {c : Code} {s s' : S} {Q : Exit → S → Prop} (id : Nat) (hs : s.nfa id = some s') (h : W k P c s' Q) : W k P c s Q := fun w0 wr A a w hk ⟨L, F, hr⟩ => by
  unfold S.nfa at hs
  split at hs
  · rename_i rows hlk
    obtain rfl := Option.some.inj hs
    exact h w0 wr A a w hk ⟨L, F, hr.nf hlk⟩
  · cases hs
end Mg

/- The abstract state logic, part 28: lists that grow. No condition. -/
namespace Mg
open Go Go.RowKit
set_option linter.unusedVariables false

section
variable {α : Type}
/-- A list of its own grows. -/
theorem sApp {a : Prop} {c : α → List MC} {xs : List α} {k b : Nat} {rows2 : List (List MC)} (ha : a) (hc : ∀ x, (c x).length = k) (h2 : (rows2.all fun r => r.length == k) = true) (hl : xs.length ≤ 1000000) (hl2 : Nat.ble rows2.length 1000000 = true) (hb : Nat.ble b 1000000 = true) :
    Side (a ∧ (∀ r ∈ xs.map c, r.length = k) ∧ (∀ r ∈ rows2, r.length = k) ∧ ((xs.map c).length + rows2.length) * b ≤ 140737488355328 ∧ (xs.map c).length + rows2.length ≤ 140737488355328) := by
  have h2' := Nat.le_of_ble_eq_true hl2
  have hb' := Nat.le_of_ble_eq_true hb
  refine ⟨ha, fun r hr => by obtain ⟨x, _, rfl⟩ := List.mem_map.1 hr; exact hc x, fun r hr => by simpa using List.all_eq_true.1 h2 r hr, ?_, ?_⟩
  · rw [List.length_map]
    exact Nat.le_trans (Nat.mul_le_mul (Nat.add_le_add hl h2') hb') (by decide)
  · rw [List.length_map]; omega
theorem sAppL {xs : List α} {x : α} {m n : Nat} (hm : m = xs.length) (hn : n = 1) : Side ((xs ++ [x]).length = m + n) := ⟨by simp [hm, hn]⟩
theorem sWr {k n : Int} (h1 : -9223372036854775808 ≤ n) (h2 : n ≤ 9223372036854775807) (h : k = n) : Side (k = IntKind.i64.wrap n) := ⟨by rw [wrapi h1 h2, h]⟩
theorem sAppR {c : α → List MC} {xs : List α} {x : α} {rows2 : List (List MC)} (h : rows2 = [c x]) : Side ((xs ++ [x]).map c = xs.map c ++ rows2) := ⟨by rw [List.map_append, h]; rfl⟩
theorem sMapF {c : α → List MC} {xs : List α} (hc : ∀ x, (c x).all MC.flat = true) : Side (∀ r ∈ xs.map c, ∀ x ∈ r, x.flat = true) :=
  ⟨fun r hr x hx => by obtain ⟨y, _, rfl⟩ := List.mem_map.1 hr; exact List.all_eq_true.1 (hc y) x hx⟩
theorem sFzE {c : α → List MC} {xs : List α} {n : Nat} (hn : n = xs.length) : Side (xs.map c = ((xs.map c).drop 0).take n) := ⟨by rw [List.drop_zero, List.take_of_length_le (by simp [hn])]⟩
theorem sMapZ {c : α → List MC} {xs : List α} (hc : ∀ x, (c x).all MC.frz = true) : Side (AllF (xs.map c) ∧ True) :=
  ⟨fun r hr x hx => by obtain ⟨y, _, rfl⟩ := List.mem_map.1 hr; exact List.all_eq_true.1 (hc y) x hx, trivial⟩
theorem l_all {c : α → List MC} {xs : List α} {n : Nat} (hn : n = xs.length) : ((xs.map c).drop 0).take n = xs.map c := by rw [List.drop_zero, List.take_of_length_le (by simp [hn])]
/-- What is lent for a call. -/
theorem allF {c : α → List MC} {xs : List α} (hc : ∀ x, (c x).all MC.frz = true) : AllF (xs.map c) :=
  fun r hr x hx => by obtain ⟨y, _, rfl⟩ := List.mem_map.1 hr; exact List.all_eq_true.1 (hc y) x hx
theorem lendF {c : α → List MC} {xs : List α} {n : Nat} (hc : ∀ x, (c x).all MC.frz = true) (hn : n = xs.length) : ∀ r ∈ ((xs.map c).drop 0).take n, ∀ x ∈ r, x.frz = true := by
  rw [l_all hn]
  exact fun r hr x hx => by obtain ⟨y, _, rfl⟩ := List.mem_map.1 hr; exact List.all_eq_true.1 (hc y) x hx
theorem sLend {P : Program} {sh : Bool} {f : Nat} {args args' : List MV} {r : MV} {p : Prop} (hp : p) (h : Pure P sh f args' r) (e : args = args') : Side (p ∧ Pure P sh f args r) := ⟨hp, e ▸ h⟩
theorem toA_map {c : α → List MC} {xs : List α} (hc : ∀ x, (c x).map MC.toA = c x) : ((xs.map c).map fun r => r.map MC.toA) = xs.map c := by
  rw [List.map_map]; exact List.map_congr_left fun x _ => hc x
theorem sAppF {c : α → List MC} {xs : List α} {rows2 : List (List MC)} {k b : Nat} (e : rows2 = xs.map c) (hc : ∀ x, (c x).length = k) (hf : ∀ x, (c x).all MC.frz = true) (hl : xs.length ≤ 2000000) (hb : Nat.ble b 1000000 = true) :
    Side ((∀ r ∈ rows2, r.length = k) ∧ rows2.length * b ≤ 140737488355328 ∧ rows2.length ≤ 140737488355328 ∧ AllF rows2 ∧ MV.one (.fz (xs.map c)) = .one (.fz rows2)) := by
  subst e
  have hb' := Nat.le_of_ble_eq_true hb
  refine ⟨fun r hr => by obtain ⟨x, _, rfl⟩ := List.mem_map.1 hr; exact hc x, ?_, ?_, allF hf, rfl⟩
  · rw [List.length_map]
    exact Nat.le_trans (Nat.mul_le_mul hl hb') (by decide)
  · rw [List.length_map]; omega
theorem setMap {c : α → List MC} {xs : List α} {k : Nat} {y : α} {r : List MC} (h : c y = r) : (xs.set k y).map c = (xs.map c).set (0 + k) r := by
  rw [Nat.zero_add, List.map_set, h]
theorem sSet {c : α → List MC} {xs : List α} {k : Nat} {y : α} {r : List MC} (h : c y = r) : Side ((xs.set k y).map c = (xs.map c).set (0 + k) r) := ⟨setMap h⟩
theorem sSetL {xs : List α} {k : Nat} {y : α} {n : Nat} (h : n = xs.length) : Side ((xs.set k y).length = n) := ⟨by rw [List.length_set, h]⟩
variable [Inhabited α]
theorem mapGet {c : α → List MC} {xs : List α} {k : Nat} (h : k < xs.length) : (xs.map c).getD (0 + k) [] = c (xs.getD k default) := by
  rw [Nat.zero_add, List.getD_eq_getElem?_getD, List.getElem?_map, List.getElem?_eq_getElem h, List.getD_eq_getElem?_getD, List.getElem?_eq_getElem h]; rfl
theorem sIxO {c : α → List MC} {xs : List α} {k : Int} {n m : Nat} (h0 : 0 ≤ k) (h : k < xs.length) (hn : n = xs.length) (hc : ∀ x, (c x).length = m) :
    Side ((0 ≤ k ∧ k < n) ∧ 0 + k.toNat < (xs.map c).length ∧ ((xs.map c).getD (0 + k.toNat) []).length = m) :=
  ⟨⟨h0, hn ▸ h⟩, by rw [List.length_map]; omega, by rw [mapGet (by omega)]; exact hc _⟩
theorem sSt {c : α → List MC} {xs : List α} {k off n m z : Nat} (h : k < xs.length) (hc : ∀ x, (c x).length = m) (hb : Nat.ble (off + n) m = true) (hz : n = z) :
    Side ((0 + k < (xs.map c).length ∧ off + n ≤ ((xs.map c).getD (0 + k) []).length) ∧ n = z) :=
  ⟨⟨by rw [List.length_map]; omega, by rw [mapGet h, hc]; exact Nat.le_of_ble_eq_true hb⟩, hz⟩
/-- A whole number that was read. -/
def intOf : List MV → Int
  | [.one (.sc (.int _ n))] => n
  | _ => 0
def asI (l : List MV) : MV := .one (.sc (.int .i64 (intOf l)))
theorem sLdI {c : α → List MC} {xs : List α} {k off : Nat} {n : α → Int} {t : α → List MC} (h : k < xs.length) (hc : ∀ x, (c x).drop off = MC.sc (.int .i64 (n x)) :: t x) :
    Side (0 < (List.drop off ((xs.map c).getD (0 + k) [])).length ∧ MV.one ((List.drop off ((xs.map c).getD (0 + k) [])).getD 0 .dead) = asI [MV.one ((List.drop off ((xs.map c).getD (0 + k) [])).getD 0 .dead)]) := by
  rw [mapGet h, hc]
  exact ⟨Nat.succ_pos _, rfl⟩
end
end Mg

/- The abstract state logic, part 35: a live list that is written no more, in the middle of code. No condition. -/
namespace Mg
open Go Go.RowKit
set_option linter.unusedVariables false
variable {P : Program} {T : Tab}

def frzW (s : S) (fs : List Nat) : MV → MV
  | .tup vs => .tup vs
  | .un => .un
  | v => frzV s fs v
/-- The state where object id is written no more. -/
def S.frz (s : S) (id : Nat) : S := ⟨s.m, s.n, s.env.map fun q => (q.1, frzW s [id] q.2), delL s.st [id]⟩
theorem frzC_bd {s : S} {fs : List Nat} {c : MC} {n : Nat} (h : c.bd n) : (frzC s fs c).bd n := by
  cases c <;> simp only [frzC] <;> first | exact h | trivial | (split <;> first | exact h | trivial)
theorem frzW_bd {s : S} {fs : List Nat} {v : MV} {n : Nat} (h : v.bd n) : (frzW s fs v).bd n := by
  cases v with
  | un => trivial
  | one c => exact frzC_bd (c := c) h
  | agg cs =>
    intro c hc
    obtain ⟨d, hd, rfl⟩ := List.mem_map.1 hc
    exact frzC_bd (h d hd)
  | tup vs => exact h
theorem look_map2 {α β : Type} (f : α → β) : ∀ (l : List (Nat × α)) (t : Nat), look (l.map fun q => (q.1, f q.2)) t = (look l t).map f
  | [], t => rfl
  | (k, v) :: l, t => by
    rw [List.map_cons, look_cons, look_cons, look_map2 f l t]
    split <;> rfl
theorem W.frz {k : Nat} {c : Code} {s : S} {Q : Exit → S → Prop} (id : Nat) {rows : List (List MC)} (hid : look s.st id = some (.arr rows)) (hall : AllF rows) (h : fS (s.frz id) fun s' => W k P c s' Q) : W k P c s Q := fun w0 wr A a w hk ⟨L, F, hr⟩ => by
  rw [fS_eq] at h
  obtain ⟨F2, hR2, hle, hrc, hout, hfz⟩ := frz_all [id] hr (by simp) (fun i hi => by
    obtain rfl : i = id := by simpa using hi
    exact ⟨rows, hid, hall⟩)
  refine h w0 wr A a w hk ⟨L, F2, ?_⟩
  refine ⟨hR2.os, hR2.tape, hR2.output, hR2.size, hR2.keep, hR2.kc, hR2.pin, hR2.fa, hR2.fn, hR2.fsz, hR2.ob, hR2.own, hR2.inj, hR2.sz, ?_, hR2.bst, ?_, hR2.df⟩
  · intro t v hv
    simp only [S.frz] at hv
    rw [look_map2] at hv
    obtain ⟨x, hx, rfl⟩ := Option.map_eq_some_iff.1 hv
    have h1 := hr.env t x hx
    have h2 := hR2.env t x hx
    cases x with
    | un => trivial
    | one c => exact frzV_ok (x := .one c) hrc hfz rfl h1
    | agg cs => exact frzV_ok (x := .agg cs) hrc hfz rfl h1
    | tup vs => exact h2
  · intro t v hv
    simp only [S.frz] at hv
    rw [look_map2] at hv
    obtain ⟨x, hx, rfl⟩ := Option.map_eq_some_iff.1 hv
    exact frzW_bd (hr.ben t x hx)
/-- Nothing, in a box, read as an empty list. -/
theorem Rl.nfb {w0 : World} {wr : Wr} {A : Nat → Prop} {L : Lay} {F : FF} {s : S} {a : Act} {w : World} (h : Rl w0 wr A L F s a w) {id : Nat} {cs : List MC} (hid : look s.st id = some (.box cs)) :
    Rl w0 wr A L F (s.set id (.box (cs.map MC.nf))) a w := by
  have hi : ∀ x : MC, ∀ u, RC (look s.st) L w F x u → RC (look (s.set id (.box (cs.map MC.nf))).st) L w F x u := fun x u hr =>
    RC.set hid (o' := .box (cs.map MC.nf)) trivial (fun _ _ => rfl) (fun _ _ _ _ _ _ hj => hj) hr
  refine ⟨h.os, h.tape, h.output, h.size, h.keep, h.kc, h.pin, h.fa, h.fn, h.fsz, ?_, ?_, ?_, h.sz, ?_, ?_, h.ben, h.df⟩
  · intro i x hx
    by_cases e : i = id
    · subst e
      have : x = .box (cs.map MC.nf) := by simpa [S.set, look_upd, hid] using hx.symm
      subst this
      obtain ⟨b, t, h1, h2, h4⟩ := h.ob i _ hid
      refine ⟨b, t, h1, h2, fun j x hj => ?_⟩
      rw [List.getElem?_map] at hj
      obtain ⟨x0, hx0, rfl⟩ := Option.map_eq_some_iff.1 hj
      obtain ⟨u, hu, hru⟩ := h4 j x0 hx0
      exact ⟨u, hu, (hi x0 u hru).nf⟩
    · rw [look_set_ne e] at hx
      exact (h.ob i x hx).imp (h.bst i x hx).2 rfl (fun k t' hk => rfl) (fun x _ u hr => hi x u hr)
  · intro i k t' h1 h2
    rw [look_set_some hid] at h1
    exact h.own i k t' h1 h2
  · intro i j k t1 t2 h1 h2 h3 h4
    rw [look_set_some hid] at h1 h2
    exact h.inj i j k t1 t2 h1 h2 h3 h4
  · intro t' v hv
    exact (h.env t' v hv).imp (h.ben t' v hv) (fun x _ u hr => hi x u hr)
  · intro i x hx
    by_cases e : i = id
    · subst e
      have : x = .box (cs.map MC.nf) := by simpa [S.set, look_upd, hid] using hx.symm
      subst this
      have hb := h.bst i _ hid
      refine ⟨hb.1, ?_⟩
      have h2 : ∀ c ∈ cs, c.bd s.n := hb.2
      show ∀ c ∈ cs.map MC.nf, c.bd s.n
      intro c hc
      obtain ⟨c0, hc0, rfl⟩ := List.mem_map.1 hc
      exact MC.nf_bd (h2 c0 hc0)
    · rw [look_set_ne e] at hx
      exact h.bst i x hx
def S.nfb (s : S) (id : Nat) : Option S := match look s.st id with
  | some (.box cs) => some (s.set id (.box (cs.map MC.nf)))
  | _ => none
theorem W.nfb {k : Nat} {c : Code} {s s' : S} {Q : Exit → S → Prop} (id : Nat) (hs : s.nfb id = some s') (h : fS s' fun s' => W k P c s' Q) : W k P c s Q := fun w0 wr A a w hk ⟨L, F, hr⟩ => by
  rw [fS_eq] at h
  unfold S.nfb at hs
  split at hs
  · rename_i cs hlk
    obtain rfl := Option.some.inj hs
    exact h w0 wr A a w hk ⟨L, F, hr.nfb hlk⟩
  · cases hs
end Mg

/- The abstract state logic, part 34: a result of its own, read as frozen. No condition. -/
namespace Mg
open Go Go.RowKit
set_option linter.unusedVariables false
def MC.fr : MC → MC
  | .own rows => .fz rows
  | c => c
def frV1 : MV → MV
  | .one c => .one c.fr
  | .agg cs => .agg (cs.map MC.fr)
  | v => v
def frV : MV → MV
  | .tup vs => .tup (vs.map frV1)
  | v => frV1 v
theorem OwnB.rf {w : World} {F F' : Nat → Prop} {b s cap : Nat} {rows : List (List MC)} (h : OwnB w F b s cap rows) (hF : ∀ b, F b → F' b) (hb : F' b) :
    RF w F' (.fz rows) (.slice (some ⟨b, 0, none⟩) rows.length cap) := by
  obtain ⟨_, hne, hs, hcap, _, hc⟩ := h
  refine RF.mk hcap fun _ => ⟨b, 0, s, rfl, hb, hs, fun i j r c h1 h2 => ?_⟩
  obtain ⟨u, hu, hr⟩ := hc i r h1 j c h2
  exact ⟨u, by rw [Nat.zero_add]; exact hu, hr.mono (fun _ _ => rfl) hF⟩
theorem OC.fr {w : World} {F F' : Nat → Prop} (hF : ∀ b, F b → F' b) {cs : List MC} {vs : List Value} {bs : List Nat} (h : OC w F cs vs bs) (hb : ∀ b ∈ bs, F' b) : OC w F' (cs.map MC.fr) vs [] := by
  induction h with
  | nil => exact .nil
  | fz h t ih =>
    have e := h.frz
    rename_i c v cs vs bs
    have : c.fr = c := by cases c <;> first | rfl | cases e
    rw [List.map_cons, this]
    exact .fz (h.mono (fun _ _ => rfl) hF) (ih hb)
  | own0 t ih => exact .fz (.nilz _ 0) (ih hb)
  | own h t ih => exact .fz (h.rf hF (hb _ (by simp))) (ih fun b hb' => hb b (by simp [hb']))
theorem OV1.fr {w : World} {F F' : Nat → Prop} (hF : ∀ b, F b → F' b) {x : MV} {v : Value} {bs : List Nat} (h : OV1 w F x v bs) (hb : ∀ b ∈ bs, F' b) : OV1 w F' (frV1 x) v [] := by
  cases x with
  | one c => exact OC.fr hF h hb
  | agg cs => obtain ⟨arr, rfl, h⟩ := h; exact ⟨arr, rfl, h.fr hF hb⟩
  | _ => exact h.elim
theorem OT.fr {w : World} {F F' : Nat → Prop} (hF : ∀ b, F b → F' b) {xs : List MV} {vs : List Value} {bs : List Nat} (h : OT w F xs vs bs) (hb : ∀ b ∈ bs, F' b) : OT w F' (xs.map frV1) vs [] := by
  induction h with
  | nil => exact .nil
  | cons h t ih => exact .cons (b1 := []) (b2 := []) (h.fr hF fun b h1 => hb b (List.mem_append_left _ h1)) (ih fun b h1 => hb b (List.mem_append_right _ h1))
theorem OV.fr {w : World} {F F' : Nat → Prop} (hF : ∀ b, F b → F' b) {x : MV} {v : Value} {bs : List Nat} (h : OV w F x v bs) (hb : ∀ b ∈ bs, F' b) : OV w F' (frV x) v [] := by
  cases x with
  | tup xs => obtain ⟨arr, rfl, h⟩ := h; exact ⟨arr, rfl, h.fr hF hb⟩
  | one c => exact OV1.fr (x := .one c) hF h hb
  | agg cs => exact OV1.fr (x := .agg cs) hF h hb
  | un => exact h.elim
theorem Pure.fr {P : Program} {sh : Bool} {f : Nat} {args : List MV} {r : MV} (h : Pure P sh f args r) : Pure P sh f args (frV r) := by
  refine ⟨h.1, fun w A vals h1 h2 h3 h4 => (h.2 w A vals h1 h2 h3 h4).mono fun e w' ⟨v, F, bs, he, hB, hF, hO, hn, hb⟩ => ?_⟩
  refine ⟨v, fun b => F b ∨ b ∈ bs, [], he, hB, fun b hb' => ?_, hO.fr (fun _ => .inl) (fun _ => .inr), List.nodup_nil, fun b h => by cases h⟩
  rcases hb' with h | h
  · exact hF b h
  · exact ⟨(hb b h).2.1, .inl (hb b h).1⟩
theorem Pure.to {P : Program} {sh : Bool} {f : Nat} {args : List MV} {r r' : MV} (h : Pure P sh f args r) (e : frV r = r') : Pure P sh f args r' := e ▸ h.fr
end Mg

/- The abstract state logic, part 36: a live list in a box's cell, written no more, with parts of the arguments in it. No condition. -/
namespace Mg
open Go Go.RowKit
set_option linter.unusedVariables false
variable {P : Program} {T : Tab}

/-- A box's cell, read otherwise. -/
theorem Rl.cell {w0 : World} {wr : Wr} {A : Nat → Prop} {L : Lay} {F : FF} {s : S} {a : Act} {w : World} (h : Rl w0 wr A L F s a w) {b j : Nat} {cs : List MC} {c : MC} (hid : look s.st b = some (.box cs)) (hbd : c.bd s.n)
    (hc : ∀ k t, L b = some (k, t) → ∀ u, w.cell? ⟨k, 0 + j, none⟩ = some u → RC (look s.st) L w F c u) : Rl w0 wr A L F (s.set b (.box (cs.set j c))) a w := by
  have hi : ∀ x : MC, ∀ u, RC (look s.st) L w F x u → RC (look (s.set b (.box (cs.set j c))).st) L w F x u := fun x u hr =>
    RC.set hid (o' := .box (cs.set j c)) trivial (fun _ _ => rfl) (fun _ _ _ _ _ _ hj => hj) hr
  refine ⟨h.os, h.tape, h.output, h.size, h.keep, h.kc, h.pin, h.fa, h.fn, h.fsz, ?_, ?_, ?_, h.sz, ?_, ?_, h.ben, h.df⟩
  · intro i x hx
    by_cases e : i = b
    · subst e
      have : x = .box (cs.set j c) := by simpa [S.set, look_upd, hid] using hx.symm
      subst this
      obtain ⟨k, t, h1, h2, h4⟩ := h.ob i _ hid
      refine ⟨k, t, h1, h2, fun i2 x hj => ?_⟩
      rw [List.getElem?_set] at hj
      by_cases e2 : j = i2
      · subst e2
        rw [if_pos rfl] at hj
        split at hj
        · rename_i hlt
          obtain rfl := Option.some.inj hj
          obtain ⟨u, hu, _⟩ := h4 j _ (List.getElem?_eq_getElem hlt)
          exact ⟨u, hu, hi _ u (hc k t h1 u hu)⟩
        · cases hj
      · rw [if_neg e2] at hj
        obtain ⟨u, hu, hru⟩ := h4 i2 x hj
        exact ⟨u, hu, hi x u hru⟩
    · rw [look_set_ne e] at hx
      exact (h.ob i x hx).imp (h.bst i x hx).2 rfl (fun k t' hk => rfl) (fun x _ u hr => hi x u hr)
  · intro i k t' h1 h2
    rw [look_set_some hid] at h1
    exact h.own i k t' h1 h2
  · intro i j k t1 t2 h1 h2 h3 h4
    rw [look_set_some hid] at h1 h2
    exact h.inj i j k t1 t2 h1 h2 h3 h4
  · intro t' v hv
    exact (h.env t' v hv).imp (h.ben t' v hv) (fun x _ u hr => hi x u hr)
  · intro i x hx
    by_cases e : i = b
    · subst e
      have : x = .box (cs.set j c) := by simpa [S.set, look_upd, hid] using hx.symm
      subst this
      have hb := h.bst i _ hid
      refine ⟨hb.1, ?_⟩
      have h2 : ∀ c ∈ cs, c.bd s.n := hb.2
      show ∀ x ∈ cs.set j c, x.bd s.n
      intro x hx
      rcases List.mem_or_eq_of_mem_set hx with hx | rfl
      · exact h2 x hx
      · exact hbd
    · rw [look_set_ne e] at hx
      exact h.bst i x hx

def MC.unA : MC → MC
  | .ag r => .fz r
  | c => c
def MC.fa : MC → Bool
  | .sc _ | .fz _ | .ag _ => true
  | _ => false
theorem RC.unA {st : Sto} {L : Lay} {w : World} {F : FF} {c : MC} {u : Value} (h : RC st L w F c u) (hf : c.fa = true) : RF w F.all c.unA u := by
  cases c <;> simp [MC.fa] at hf
  · obtain ⟨rfl, h1⟩ := h; exact .sc _ h1
  · exact RF.mono (fun _ _ => rfl) (fun b hb => .inl hb) h
  · exact h
/-- Every cell is read already. -/
structure AllA (rows : List (List MC)) : Prop where
  h : ∀ r ∈ rows, ∀ c ∈ r, c.fa = true
def S.frzA (s : S) (b j : Nat) : Option (Nat × List (List MC) × S) := match look s.st b with
  | some (.box cs) => match cs[j]? with
    | some (.ref id off len) => match look s.st id with
      | some (.arr rows) => some (id, rows, { s with st := upd (del s.st id) b (.box (cs.set j (.ag (((rows.drop off).take len).map fun r => r.map MC.unA)))) })
      | _ => none
    | _ => none
  | _ => none
theorem W.frzA {k : Nat} {c : Code} {s s' : S} {Q : Exit → S → Prop} (b j : Nat) {id : Nat} {rows : List (List MC)} (hs : s.frzA b j = some (id, rows, s')) (hall : AllA rows) (h : fS s' fun s' => W k P c s' Q) : W k P c s Q := fun w0 wr A a w hk ⟨L, F, hr⟩ => by
  rw [fS_eq] at h
  unfold S.frzA at hs
  split at hs
  case h_2 => cases hs
  rename_i cs hb
  split at hs
  case h_2 => cases hs
  rename_i id0 off len hj
  split at hs
  case h_2 => cases hs
  rename_i rows0 hid
  have hs1 := Prod.mk.inj (Option.some.inj hs)
  have hs2 := Prod.mk.inj hs1.2
  obtain rfl := hs1.1
  obtain rfl := hs2.1
  obtain rfl := hs2.2
  have hbi : b ≠ id0 := fun e => by subst e; rw [hb] at hid; cases hid
  obtain ⟨kb, tb, hLb, _, hcb⟩ := hr.ob b _ hb
  obtain ⟨u0, hu0, hru0⟩ := hcb j _ hj
  obtain ⟨bb, cap, hv, hle, _⟩ := hru0.2 rows0 hid
  have hlen : ((((rows0.drop off).take len).map fun r => r.map MC.unA)).length = len := by simp; omega
  -- freeze, then read the cell otherwise
  have key : ∀ F2 : FF, (∀ x, F.all x → F2.all x) → (∀ bk t, L id0 = some (bk, t) → F2.all bk) → RF w F2.all (.fz (((rows0.drop off).take len).map fun r => r.map MC.unA)) u0 := fun F2 hF hbk => by
    by_cases hn : len = 0
    · subst hn; rw [hv]; simp; exact .nilz _ _
    · obtain ⟨bk, st, cap', hL, hv', _, hcap, _, _, hsz, hw⟩ := ref_row hr hru0 hid hn
      rw [hv']
      have := RF.mk (w := w) (F := F2.all) (rows := ((rows0.drop off).take len).map fun r => r.map MC.unA) (a := some ⟨bk, off * st, none⟩) (cap := cap') (by omega) (fun _ => ⟨bk, off * st, st, rfl, hbk bk st hL, fun r hr' => by
          obtain ⟨r0, hr0, rfl⟩ := List.mem_map.1 hr'
          rw [List.length_map]
          exact hsz r0 (List.mem_of_mem_drop (List.mem_of_mem_take hr0)), fun i j' r c hi hj' => by
        rw [List.getElem?_map] at hi
        obtain ⟨r0, hi0, rfl⟩ := Option.map_eq_some_iff.1 hi
        rw [List.getElem?_map] at hj'
        obtain ⟨c0, hc0, rfl⟩ := Option.map_eq_some_iff.1 hj'
        have hf := hall.h r0 (List.mem_of_mem_drop (List.mem_of_mem_take (List.mem_of_getElem? hi0))) c0 (List.mem_of_getElem? hc0)
        rw [List.getElem?_take] at hi0
        split at hi0
        · rw [List.getElem?_drop] at hi0
          obtain ⟨u, hu, hru⟩ := hw _ r0 hi0 j' c0 hc0
          refine ⟨u, ?_, RF.mono (fun _ _ => rfl) hF (hru.unA hf)⟩
          rw [← hu]; congr 2; rw [Nat.add_mul]; omega
        · cases hi0⟩)
      rwa [hlen] at this
  have hdb : look (del s.st id0) b = some (.box cs) := by rw [look_del, if_neg hbi]; exact hb
  cases hL : L id0 with
  | some q =>
    obtain ⟨bk, t⟩ := q
    have hR2 := hr.freeze hid hL
    refine h w0 wr A a w hk ⟨L, _, hR2.cell (j := j) (c := .ag (((rows0.drop off).take len).map fun r => r.map MC.unA)) hdb trivial (fun k t2 hk2 u hu => ?_)⟩
    rw [hLb] at hk2
    obtain ⟨rfl, rfl⟩ := Prod.mk.inj (Option.some.inj hk2)
    rw [hu0] at hu
    obtain rfl := Option.some.inj hu
    refine key _ (fun x hx => hx.imp Or.inl id) (fun bk2 t3 h3 => ?_)
    rw [hL] at h3
    obtain ⟨rfl, rfl⟩ := Prod.mk.inj (Option.some.inj h3)
    exact .inl (.inr rfl)
  | none =>
    have hsub : Sub { s with st := del s.st id0 } s := by
      refine ⟨rfl, fun t v hv => ⟨hv, hr.ben t v hv⟩, fun i o ho => ?_⟩
      simp only [look_del] at ho
      split at ho
      · cases ho
      · exact ⟨ho, hr.bst i o ho⟩
    · have hR2 := hr.weaken hsub (fun i hi => (hr.pin i hi).2)
      refine h w0 wr A a w hk ⟨L, _, hR2.cell (j := j) (c := .ag (((rows0.drop off).take len).map fun r => r.map MC.unA)) hdb trivial (fun k t2 hk2 u hu => ?_)⟩
      rw [hLb] at hk2
      obtain ⟨rfl, rfl⟩ := Prod.mk.inj (Option.some.inj hk2)
      rw [hu0] at hu
      obtain rfl := Option.some.inj hu
      exact key _ (fun x hx => hx) (fun bk2 t3 h3 => by rw [hL] at h3; cases h3)
end Mg
