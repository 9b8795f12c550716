/- Parts of the abstract state logic and of the walks, one behind the other: Mg39, Mg34, Mg26. No condition. -/
import Derived.Test.YtedgmfmhilihoaaP11
import Derived.Test.YtedgmfmhilihoaaP6
/- The abstract state logic, part 39: contracts of functions that make trees, and of functions that write them, out of their bodies. No condition. -/
namespace Mg
open Go Go.RowKit
set_option linter.unusedVariables false

variable {P : Program} {T : Tab}

/-- The blocks at a place of a row of results. -/
def setAt (vs : List MV) (i j : Nat) : Bk := fun b => inC b ((cellsV (vs.getD i .un)).getD j .dead)
def endC : MC → MC → Prop
  | .sc u, .sc v => Side (u = v)
  | .tr true _ _ rows, .fz rows' => Side (rows = rows')
  | .nil, .fz rows' => Side (rows' = [])
  | _, _ => False
def endL : List MC → List MC → Prop
  | [], [] => True
  | c :: cs, d :: ds => endC c d ∧ endL cs ds
  | _, _ => False
def end1 : MV → MV → Prop
  | .one c, .one d => endC c d
  | .agg cs, .agg ds => endL cs ds
  | _, _ => False
def endVs : List MV → List MV → Prop
  | [], [] => True
  | c :: cs, d :: ds => end1 c d ∧ endVs cs ds
  | _, _ => False

theorem endC_ok {st : Sto} {L : Lay} {w : World} {F : FF} {c d : MC} {v : Value} (h : RC st L w F c v) (he : endC c d) : RT w (labc true ⟨fun b => inC b c, v⟩ d) v ∧ ∀ b, inC b c → F.n b ∧ ¬ F.a b := by
  unfold endC at he
  split at he
  · obtain ⟨rfl⟩ := he
    exact ⟨h, fun b hb => hb.elim⟩
  · obtain ⟨rfl⟩ := he
    exact ⟨⟨rfl, h.2.2⟩, fun b hb => (h.2.1 b hb).2 rfl⟩
  · obtain ⟨rfl⟩ := he
    obtain ⟨a, rfl⟩ := h
    exact ⟨⟨rfl, TR.nilz a _ fun _ h => h⟩, fun b hb => hb.elim⟩
  · exact he.elim
theorem endL_get : ∀ {cs ds : List MC}, endL cs ds → cs.length = ds.length ∧ ∀ (j : Nat) (d : MC), ds[j]? = some d → ∃ c, cs[j]? = some c ∧ endC c d
  | [], [], _ => ⟨rfl, fun j d hj => by simp at hj⟩
  | c :: cs, d :: ds, h => by
    obtain ⟨h1, h2⟩ := endL_get h.2
    refine ⟨by simp [h1], fun j x hj => ?_⟩
    cases j with
    | zero => obtain rfl := Option.some.inj hj; exact ⟨c, rfl, h.1⟩
    | succ j => exact h2 j x hj
  | [], _ :: _, h => h.elim
  | _ :: _, [], h => h.elim
theorem endVs_get : ∀ {cs ds : List MV}, endVs cs ds → cs.length = ds.length ∧ ∀ (j : Nat) (d : MV), ds[j]? = some d → ∃ c, cs[j]? = some c ∧ end1 c d
  | [], [], _ => ⟨rfl, fun j d hj => by simp at hj⟩
  | c :: cs, d :: ds, h => by
    obtain ⟨h1, h2⟩ := endVs_get h.2
    refine ⟨by simp [h1], fun j x hj => ?_⟩
    cases j with
    | zero => obtain rfl := Option.some.inj hj; exact ⟨c, rfl, h.1⟩
    | succ j => exact h2 j x hj
  | [], _ :: _, h => h.elim
  | _ :: _, [], h => h.elim

theorem getD_of {α : Type} {l : List α} {i : Nat} {x d : α} (h : l[i]? = some x) : l.getD i d = x := by rw [List.getD_eq_getElem?_getD, h]; rfl

theorem end1_ok {st : Sto} {L : Lay} {w : World} {F : FF} {c d : MV} {v : Value} (h : RV1 st L w F c v) (he : end1 c d) :
    ∃ U : Nat → Value, RT1 w (lab1 true (fun j => ⟨fun b => inC b ((cellsV c).getD j .dead), U j⟩) d) v ∧ ∀ j b, inC b ((cellsV c).getD j .dead) → F.n b ∧ ¬ F.a b := by
  cases c with
  | one c => cases d with
    | one d =>
      obtain ⟨h1, h2⟩ := endC_ok h he
      refine ⟨fun _ => v, h1, fun j b hb => ?_⟩
      cases j with
      | zero => exact h2 b hb
      | succ j => exact (by simp [cellsV, inC] at hb : False).elim
    | _ => exact he.elim
  | agg cs => cases d with
    | agg ds =>
      obtain ⟨arr, rfl, h1, h2⟩ := h
      obtain ⟨h3, h4⟩ := endL_get he
      refine ⟨fun j => arr.getD j undef, ⟨arr, rfl, by rw [labRow_len, h1, h3], fun j c hj => ?_⟩, fun j b hb => ?_⟩
      · rw [labRow_get] at hj
        obtain ⟨d, hd, rfl⟩ := Option.map_eq_some_iff.1 hj
        obtain ⟨c, hc, hcd⟩ := h4 j d hd
        obtain ⟨u, hu, hr⟩ := h2 j c hc
        refine ⟨u, hu, ?_⟩
        have e1 : arr.getD (0 + j) undef = u := by rw [Nat.zero_add, Array.getD_eq_getD_getElem?, hu]; rfl
        have e2 : (cellsV (.agg cs)).getD (0 + j) .dead = c := by rw [Nat.zero_add]; exact getD_of hc
        show RT w (labc true ⟨fun b => inC b ((cellsV (.agg cs)).getD (0 + j) .dead), arr.getD (0 + j) undef⟩ d) u
        rw [e1, e2]
        exact (endC_ok hr hcd).1
      · cases hc : cs[j]? with
        | none =>
          have : (cellsV (.agg cs)).getD j .dead = .dead := by show cs.getD j .dead = _; rw [List.getD_eq_getElem?_getD, hc]; rfl
          rw [this] at hb; exact hb.elim
        | some c =>
          have : (cellsV (.agg cs)).getD j .dead = c := getD_of hc
          rw [this] at hb
          have hlt := (List.getElem?_eq_some_iff.1 hc).1
          obtain ⟨c', hc', hcd⟩ := h4 j ds[j] (List.getElem?_eq_getElem (by omega))
          rw [hc] at hc'
          obtain rfl := Option.some.inj hc'
          obtain ⟨u, hu, hr⟩ := h2 j c hc
          exact (endC_ok hr hcd).2 b hb
    | _ => exact he.elim
  | un => exact he.elim
  | tup _ => exact he.elim

/-- The end of a function that makes trees. -/
def endTF (T : Tab) (fn : Func) (r : MV) (s : S) : Prop :=
  match resL T s fn.results.toList with
  | some (p, [v]) => match v with
    | .one (.ref id off len) => match look s.st id, r with
      | some (.arr rows), .one (.fz rows') => Side p ∧ Chk (Nat.beq off 0) ∧ ∃ B, Side (len = rows'.length ∧ rows = labR true B 0 rows') ∧ Side (Apart B) ∧ Side (AllF rows')
      | _, _ => False
    | v => Side p ∧ end1 v r ∧ Side (Apart fun i j => ⟨setAt [v] i j, undef⟩)
  | some (p, vs) => match r with
    | .tup xs => Side p ∧ endVs vs xs ∧ Side (Apart fun i j => ⟨setAt vs i j, undef⟩)
    | _ => False
  | none => False
def endTE (T : Tab) (fn : Func) (r : MV) : Exit → S → Prop
  | .normal, s => endTF T fn r s
  | .ret, s => endTF T fn r s
  | _, _ => False

theorem results_run {fn : Func} {tmps : Array Value} {w' : World} {us : List Value} (hu : (fn.results.toList.mapM (resS tmps)).run P w' = .ok us w') : (results fn tmps).run P w' = .ok (if h : us.toArray.size = 1 then us.toArray[0] else .tuple us.toArray) w' := by
  rw [results_list]
  have : ∀ arr : Array ResultVar, arr.mapM (resS tmps) = List.toArray <$> arr.toList.mapM (resS tmps) := fun arr => by
    cases arr; exact List.mapM_toArray
  rw [Sem.run_bind, this, Sem.run_map, hu]
  rfl

/-- A list in a block of its own, whose rows read as trees, is a tree. -/
theorem tree_of {w0 : World} {wr : Wr} {A : Nat → Prop} {L : Lay} {F : FF} {s : S} {a : Act} {w : World} (h : Rl w0 wr A L F s a w) {id len : Nat} {rows : List (List MC)} {B : Nat → Nat → Tk} {v : Value}
    (hv : RC (look s.st) L w F (.ref id 0 len) v) (hid : look s.st id = some (.arr (labR true B 0 rows))) (hlen : len = rows.length) (hap : Apart B) (hall : AllF rows) :
    ∃ N : Bk, TR w (.fz rows) v N ∧ (∀ b, N b → ¬ F.a b ∧ b < w.heap.size ∧ (w0.heap.size ≤ b ∨ wr b ∨ wr.o b)) ∧ ((rows = [] ∧ ∀ b, ¬ N b) ∨ ∃ b s', L id = some (b, s') ∧ ∀ x, N x ↔ x = b ∨ ∃ i j r c, rows[i]? = some r ∧ r[j]? = some c ∧ inC x (labc true (B i j) c)) := by
  subst hlen
  obtain ⟨a', cap, rfl, hle, hx⟩ := hv.2 _ hid
  have hll : (labR true B 0 rows).length = rows.length := labR_len _ _ _ _
  rcases hx with ⟨b, st, hL, rfl, hcap, hne, hcs⟩ | ⟨h0, rfl⟩
  · rcases h.ob id _ hid with ⟨hnil, _⟩ | ⟨b', st', hL', hf, hs, hw⟩
    · exact absurd hnil hne
    · rw [hL] at hL'
      obtain ⟨rfl, rfl⟩ := Prod.mk.inj (Option.some.inj hL')
      have hown := h.own id b st (by rw [hid]; rfl) hL
      have hrow : ∀ i r, rows[i]? = some r → (labR true B 0 rows)[i]? = some (labRow true (B i) 0 r) := fun i r hi => by rw [labR_get, hi, Nat.zero_add]; rfl
      have hcell : ∀ i r j c, rows[i]? = some r → r[j]? = some c → ∃ u, w.cell? ⟨b, i * st + j, none⟩ = some u ∧ RC (look s.st) L w F (labc true (B i j) c) u := fun i r j c hi hj =>
        hw i _ (hrow i r hi) j _ (by rw [labRow_get, hj, Nat.zero_add]; rfl)
      have hsub : ∀ i r j c x, rows[i]? = some r → r[j]? = some c → inC x (labc true (B i j) c) → F.n x ∧ ¬ F.a x := fun i r j c x hi hj hx => by
        obtain ⟨u, _, hr⟩ := hcell i r j c hi hj
        have hfz := hall r (List.mem_of_getElem? hi) c (List.mem_of_getElem? hj)
        cases c <;> first | (cases hfz; done) | exact hx.elim | exact (hr.2.1 x hx).2 rfl
      refine ⟨fun x => x = b ∨ ∃ i j r c, rows[i]? = some r ∧ r[j]? = some c ∧ inC x (labc true (B i j) c), ?_, ?_, .inr ⟨b, st, hL, fun x => Iff.rfl⟩⟩
      · rw [Nat.zero_mul]
        refine .fz rows b cap st (fun i j => (w.cell? ⟨b, i * st + j, none⟩).getD undef) (fun i j x => ∃ r c, rows[i]? = some r ∧ r[j]? = some c ∧ inC x (labc true (B i j) c)) _ (fun e => hne (by subst e; rfl)) hf (fun r hr => ?_) hcap (fun j hj => hcs j (by simpa using hj)) hown.2.1
          (fun i j r c hi hj => ?_) (fun i j r c hi hj => ?_) (fun i j i' j' x ⟨r, c, h1, h2, h3⟩ ⟨r', c', h4, h5, h6⟩ => ?_) (fun i j ⟨r, c, h1, h2, h3⟩ => ?_) (fun x => ⟨?_, ?_⟩) (fun i j x ⟨r, c, h1, h2, _⟩ => ⟨r, c, h1, h2⟩)
        · obtain ⟨i, hi⟩ := List.getElem?_of_mem hr
          have := hs _ (List.mem_of_getElem? (hrow i r hi))
          rwa [labRow_len] at this
        · obtain ⟨u, hu, _⟩ := hcell i r j c hi hj
          simp [hu]
        · obtain ⟨u, hu, hr⟩ := hcell i r j c hi hj
          have hfz := hall r (List.mem_of_getElem? hi) c (List.mem_of_getElem? hj)
          simp only [hu, Option.getD_some]
          cases c <;> first | (cases hfz; done) | skip
          · obtain ⟨rfl, h1⟩ := hr
            exact .sc _ _ h1 fun x ⟨r', c', h1, h2, h3⟩ => by
              rw [hi] at h1; obtain rfl := Option.some.inj h1
              rw [hj] at h2; obtain rfl := Option.some.inj h2
              exact h3
          · obtain ⟨rfl, _, h1⟩ := hr
            have : (fun x => ∃ r' c', rows[i]? = some r' ∧ r'[j]? = some c' ∧ inC x (labc true (B i j) c')) = (B i j).B := by
              funext x
              refine propext ⟨fun ⟨r', c', h1, h2, h3⟩ => ?_, fun hx => ⟨r, _, hi, hj, hx⟩⟩
              rw [hi] at h1; obtain rfl := Option.some.inj h1
              rw [hj] at h2; obtain rfl := Option.some.inj h2
              exact h3
            rw [this]; exact h1
        · have hB : ∀ {i j c x}, inC x (labc true (B i j) c) → c.frz = true → (B i j).B x := fun {i j c x} h hf => by
            cases c <;> first | (cases hf; done) | exact h.elim | exact h
          exact hap i j i' j' x (hB h3 (hall r (List.mem_of_getElem? h1) c (List.mem_of_getElem? h2))) (hB h6 (hall r' (List.mem_of_getElem? h4) c' (List.mem_of_getElem? h5)))
        · exact hown.1 (.inl (hsub i r j c b h1 h2 h3).1)
        · rintro (rfl | ⟨i, j, r, c, h1, h2, h3⟩)
          · exact .inl rfl
          · exact .inr ⟨i, j, r, c, h1, h2, h3⟩
        · rintro (rfl | ⟨i, j, r, c, h1, h2, h3⟩)
          · exact .inl rfl
          · exact .inr ⟨i, j, r, c, h1, h2, h3⟩
      · rintro x (rfl | ⟨i, j, r, c, h1, h2, h3⟩)
        · exact ⟨fun hf => hown.1 (.inr hf), hown.2.1, hown.2.2.imp (fun h => h) .inl⟩
        · obtain ⟨g1, g2⟩ := hsub i r j c x h1 h2 h3
          exact ⟨g2, h.fsz x (.inl g1), h.fn x g1⟩
  · have : rows = [] := List.eq_nil_of_length_eq_zero h0
    subst this
    exact ⟨fun _ => False, .nilz _ _ fun _ h => h, fun b hb => hb.elim, .inl ⟨rfl, fun _ h => h⟩⟩

theorem endT_ok {w : World} {A : Nat → Prop} {L : Lay} {F : FF} {s : S} {a : Act} {w' : World} (hT : TOk P T) (h : Rl w ⟨fun _ => False, 0, fun _ => none, fun _ => False⟩ A L F s a w') {fn : Func} {r : MV} (he : endTF T fn r s) :
    ∃ v, (results fn a.tmps).run P w' = .ok v w' ∧ ∃ B : Nat → Nat → Tk, Below w.heap.size w w' ∧ RTV w' (lab true B r) v ∧ Apart B ∧ ∀ b, Any B b → w.heap.size ≤ b ∧ b < w'.heap.size := by
  have hbel : Below w.heap.size w w' := ⟨h.os, h.tape, h.output, h.size, fun k hk => h.keep k hk (fun x => x)⟩
  have hnew : ∀ b, F.n b ∧ ¬ F.a b → w.heap.size ≤ b ∧ b < w'.heap.size := fun b hb => ⟨(h.fn b hb.1).resolve_right (fun x => x.elim (fun h => h) (fun h => h)), h.fsz b (.inl hb.1)⟩
  unfold endTF at he
  split at he
  · rename_i p1 v1 hres
    have one : ∀ hp : p1, ∃ u, (fn.results.toList.mapM (resS a.tmps)).run P w' = .ok [u] w' ∧ RV (look s.st) L w' F v1 u := fun hp => by
      obtain ⟨us, hus, hlen, hr⟩ := resL_ok hT h hres hp
      obtain ⟨u, hu, hru⟩ := hr 0 v1 rfl
      have hus1 : us = [u] := by
        cases us with
        | nil => simp at hlen
        | cons x t =>
          obtain rfl : x = u := by simpa using hu
          have : t = [] := List.eq_nil_of_length_eq_zero (by simpa using hlen)
          rw [this]
      exact ⟨u, hus1 ▸ hus, hru⟩
    split at he
    · rename_i id off len
      split at he
      · rename_i rows rows' hid
        obtain ⟨⟨hp⟩, ⟨hoff⟩, B, ⟨hl, rfl⟩, ⟨hap⟩, ⟨hall⟩⟩ := he
        obtain rfl : off = 0 := Nat.eq_of_beq_eq_true hoff
        obtain ⟨u, hus, hru⟩ := one hp
        obtain ⟨N, hN, hNn, _⟩ := tree_of h hru hid hl hap hall
        refine ⟨u, by simpa using results_run hus, fun i j => match i, j with | 0, 0 => ⟨N, u⟩ | _, _ => ⟨fun _ => False, undef⟩, hbel, ⟨rfl, hN⟩, ?_, ?_⟩
        · intro i j i' j' x h1 h2
          cases i <;> cases j <;> cases i' <;> cases j' <;> first | exact ⟨rfl, rfl⟩ | exact h1.elim | exact h2.elim
        · rintro b ⟨i, j, hb⟩
          cases i <;> cases j <;> first | exact hb.elim | skip
          obtain ⟨_, g2, g3⟩ := hNn b hb
          exact ⟨g3.resolve_right (fun x => x.elim (fun h => h) (fun h => h)), g2⟩
      · exact he.elim
    · obtain ⟨⟨hp⟩, he1, ⟨hap⟩⟩ := he
      obtain ⟨u, hus, hru⟩ := one hp
      have hru1 : RV1 (look s.st) L w' F v1 u := by cases v1 <;> first | exact hru | exact he1.elim
      obtain ⟨U, h1, h2⟩ := end1_ok hru1 he1
      refine ⟨u, by simpa using results_run hus, fun i j => match i with | 0 => ⟨setAt [v1] 0 j, U j⟩ | _ + 1 => ⟨fun _ => False, undef⟩, hbel, ?_, ?_, ?_⟩
      · cases r <;> first | exact h1 | (cases v1 <;> exact he1.elim)
      · intro i j i' j' x g1 g2
        cases i <;> cases i' <;> first | exact g1.elim | exact g2.elim | skip
        exact hap 0 j 0 j' x g1 g2
      · rintro b ⟨i, j, hb⟩
        cases i <;> first | exact hb.elim | skip
        exact hnew b (h2 j b hb)
  · rename_i p1 vs hne hres
    split at he
    · rename_i xs
      obtain ⟨⟨hp⟩, he1, ⟨hap⟩⟩ := he
      obtain ⟨us, hus, hlen, hr⟩ := resL_ok hT h hres hp
      have hone : us.toArray.size ≠ 1 := fun e => by
        have : vs.length = 1 := by rw [← hlen]; simpa using e
        obtain ⟨v, rfl⟩ := List.length_eq_one_iff.1 this
        exact hne v rfl
      obtain ⟨h3, h4⟩ := endVs_get he1
      have key : ∀ i, ∃ U : Nat → Value, ∀ d, xs[i]? = some d → ∃ u, us[i]? = some u ∧ RT1 w' (lab1 true (fun j => ⟨setAt vs i j, U j⟩) d) u ∧ ∀ j b, setAt vs i j b → F.n b ∧ ¬ F.a b := fun i => by
        cases hd : xs[i]? with
        | none => exact ⟨fun _ => undef, fun d h => by cases h⟩
        | some d =>
          obtain ⟨c, hc, hcd⟩ := h4 i d hd
          obtain ⟨u, hu, hru⟩ := hr i c hc
          have hru1 : RV1 (look s.st) L w' F c u := by cases c <;> first | exact hru | exact hcd.elim
          obtain ⟨U, g1, g2⟩ := end1_ok hru1 hcd
          have e : vs.getD i .un = c := getD_of hc
          refine ⟨U, fun d' hd' => ?_⟩
          obtain rfl := Option.some.inj hd'
          refine ⟨u, hu, ?_, ?_⟩
          · unfold setAt; rw [e]; exact g1
          · intro j b hb; unfold setAt at hb; rw [e] at hb; exact g2 j b hb
      let U : Nat → Nat → Value := fun i => Classical.choose (key i)
      have hU := fun i => Classical.choose_spec (key i)
      refine ⟨.tuple us.toArray, by have := results_run hus; rwa [dif_neg hone] at this, fun i j => ⟨setAt vs i j, U i j⟩, hbel, ⟨us.toArray, rfl, ?_, fun i x hx => ?_⟩, hap, ?_⟩
      · rw [labT_len]; simp only [List.size_toArray]; omega
      · rw [labT_get] at hx
        obtain ⟨d, hd, rfl⟩ := Option.map_eq_some_iff.1 hx
        obtain ⟨u, g1, g2, _⟩ := hU i d hd
        exact ⟨u, by simpa using g1, by rw [Nat.zero_add]; exact g2⟩
      · rintro b ⟨i, j, hb⟩
        cases hd : xs[i]? with
        | none =>
          have hv : vs[i]? = none := List.getElem?_eq_none (by have := List.getElem?_eq_none_iff.1 hd; omega)
          have : vs.getD i .un = .un := by rw [List.getD_eq_getElem?_getD, hv]; rfl
          have hb : setAt vs i j b := hb
          unfold setAt at hb
          rw [this] at hb
          exact (by simp [cellsV, inC] at hb : False).elim
        | some d =>
          obtain ⟨u, _, _, g3⟩ := hU i d hd
          exact hnew b (g3 j b hb)
    · exact he.elim
  · exact he.elim

/-- A CONTRACT of a function that makes trees, out of its reckoning. -/
theorem TPure.vc {f : Nat} {fn : Func} {c : Code} {args : List MV} {r : MV} (hs : List (Nat × Hint)) (hT : TOk P T) (hm : P.follows .mixedOrders = true) (hf : P.funcs[f]? = some fn) (hn : (fn.name == "runtime.NumGoroutine") = false) (hb : fn.body = some c) (hl : Nat.ble args.length fn.ntmps = true)
    (h : fS (S.start fn.ntmps args) fun s => Mg.vc 0 P T c hs s (endTE T fn r)) : TPure P f args r := by
  rw [fS_eq] at h
  refine ⟨⟨fn, hf, hn, by rw [hb]; rfl⟩, ?_⟩
  intro w A vals hsz hv hA hgt
  refine calls_of_wp hf hb (wp_mono (vc_ok hT hm _ _ _ h w ⟨fun _ => False, 0, fun _ => none, fun _ => False⟩ A _ w ⟨rfl, hgt, fun _ h => h.elim⟩ (start_rel hsz (Nat.le_of_ble_eq_true hl) hv hA)) fun e a w' ⟨s, ⟨L, F, hr⟩, he⟩ => ?_)
  have key : endTF T fn r s → a.defers = [] ∧ ∃ v, (results fn a.tmps).run P w' = .ok v w' ∧ ∃ (v' : Value) (B : Nat → Nat → Tk), Ending.returned v = .returned v' ∧ Below w.heap.size w w' ∧ RTV w' (lab true B r) v' ∧ Apart B ∧ ∀ b, Any B b → w.heap.size ≤ b ∧ b < w'.heap.size := fun he => by
    obtain ⟨v, h1, B, h2, h3, h4, h5⟩ := endT_ok hT hr he
    exact ⟨hr.df, v, h1, v, B, rfl, h2, h3, h4, h5⟩
  cases e <;> first | exact key he | exact he.elim

/- ------------------------------------------------ laws: the arguments' slices, told with their blocks -/
def envT (A : Bk) (U : Nat → Nat → Value) : Nat → List MV → List (Nat × MV)
  | _, [] => []
  | k, x :: xs => (k, lab1 false (fun j => ⟨A, U k j⟩) x) :: envT A U (k + 1) xs
theorem look_envT (A : Bk) (U : Nat → Nat → Value) : ∀ (xs : List MV) (k j : Nat), look (envT A U k xs) j = if k ≤ j then (xs[j - k]?).map (lab1 false fun i => ⟨A, U j i⟩) else none
  | [], k, j => by simp [envT]
  | x :: xs, k, j => by
    simp only [envT, look_cons]
    by_cases e : j = k
    · subst e; simp
    · rw [if_neg e, look_envT A U xs (k + 1) j]
      by_cases h : k ≤ j
      · rw [if_pos (by omega), if_pos h, show j - k = (j - (k + 1)) + 1 by omega]; rfl
      · rw [if_neg (by omega), if_neg h]
def S.startT (A : Bk) (U : Nat → Nat → Value) (m : Nat) (args : List MV) : S := ⟨m, 0, envT A U 0 args, []⟩

theorem FV.rt {w : World} {A : Nat → Prop} {x : MV} {v : Value} (h : FV w A x v) : ∃ U : Nat → Value, RT1 w (lab1 false (fun j => ⟨A, U j⟩) x) v := by
  cases x with
  | one c => exact ⟨fun _ => v, RF.rt h⟩
  | agg cs =>
    obtain ⟨arr, rfl, h1, h2⟩ := h
    refine ⟨fun j => arr.getD j undef, arr, rfl, by rw [labRow_len, h1], fun j c hj => ?_⟩
    rw [labRow_get] at hj
    obtain ⟨d, hd, rfl⟩ := Option.map_eq_some_iff.1 hj
    obtain ⟨u, hu, hr⟩ := h2 j d hd
    have e1 : arr.getD (0 + j) undef = u := by rw [Nat.zero_add, Array.getD_eq_getD_getElem?, hu]; rfl
    exact ⟨u, hu, by show RT w (labc false ⟨A, arr.getD (0 + j) undef⟩ d) u; rw [e1]; exact hr.rt⟩
  | un => exact h.elim
  | tup _ => exact h.elim
theorem RT1.rva {w : World} {st : Sto} {L : Lay} {A : Nat → Prop} {o : Nat → Value} {x : MV} {v : Value} (hp : plain1 x = true) (h : RT1 w (lab1 false (fun j => ⟨A, o j⟩) x) v) : RV1 st L w ⟨fun _ => False, A⟩ (lab1 false (fun j => ⟨A, o j⟩) x) v := by
  have hc : ∀ {c : MC} {u u' : Value}, plainC c = true → RT w (labc false ⟨A, u'⟩ c) u → RC st L w ⟨fun _ => False, A⟩ (labc false ⟨A, u'⟩ c) u := fun {c u u'} hp h => by
    cases c <;> first | exact h.elim | exact h | (cases hp; done) | exact ⟨h.1, fun b hb => ⟨.inr hb, fun ho => by cases ho⟩, h.2⟩
  cases x with
  | one c => exact hc hp h
  | agg cs =>
    obtain ⟨arr, rfl, h1, h2⟩ := h
    refine ⟨arr, rfl, h1, fun j c hj => ?_⟩
    obtain ⟨u, hu, hr⟩ := h2 j c hj
    refine ⟨u, hu, ?_⟩
    rw [labRow_get] at hj
    obtain ⟨d, hd, rfl⟩ := Option.map_eq_some_iff.1 hj
    exact hc (List.all_eq_true.1 hp d (List.mem_of_getElem? hd)) hr
  | un => exact h.elim
  | tup _ => exact h.elim

/-- A LAW, its arguments told with their blocks, out of its reckoning. -/
theorem Law.vc {f : Nat} {fn : Func} {c : Code} {args : List MV} {r : MV} (hs : List (Nat × Hint)) (hT : TOk P T) (hm : P.follows .mixedOrders = true) (hf : P.funcs[f]? = some fn) (hn : (fn.name == "runtime.NumGoroutine") = false) (hb : fn.body = some c) (hl : Nat.ble args.length fn.ntmps = true) (hpl : args.all plain1 = true)
    (h : ∀ A U, fS (S.startT A U fn.ntmps args) fun s => Mg.vc 0 P T c hs s (endE T false fn r)) : Pure P false f args r := by
  refine ⟨⟨fn, hf, hn, by rw [hb]; rfl⟩, ?_⟩
  intro w A vals hsz hv hA hgt
  have hU : ∀ i : Nat, ∃ U : Nat → Value, ∀ x, args[i]? = some x → ∃ v, vals[i]? = some v ∧ RT1 w (lab1 false (fun j => ⟨A, U j⟩) x) v := fun i => by
    cases hx : args[i]? with
    | none => exact ⟨fun _ => undef, fun x h => by cases h⟩
    | some x =>
      obtain ⟨v, h1, h2⟩ := hv i x hx
      obtain ⟨U, h3⟩ := h2.rt
      exact ⟨U, fun y hy => by obtain rfl := Option.some.inj hy; exact ⟨v, h1, h3⟩⟩
  let U : Nat → Nat → Value := fun i => Classical.choose (hU i)
  have hUs := fun i => Classical.choose_spec (hU i)
  have hlen : args.length ≤ fn.ntmps := Nat.le_of_ble_eq_true hl
  have hstart : Rel w ⟨fun _ => False, 0, fun _ => none, fun _ => False⟩ A (S.startT A U fn.ntmps args) { tmps := vals ++ Array.replicate (fn.ntmps - vals.size) undef, defers := [] } w := by
    have hlk : ∀ t v, look (S.startT A U fn.ntmps args).env t = some v → ∃ x, args[t]? = some x ∧ v = lab1 false (fun j => ⟨A, U t j⟩) x := fun t v ht => by
      have ht : look (envT A U 0 args) t = some v := ht
      rw [look_envT, if_pos (Nat.zero_le _), Nat.sub_zero] at ht
      obtain ⟨x, hx, rfl⟩ := Option.map_eq_some_iff.1 ht
      exact ⟨x, hx, rfl⟩
    have hread : ∀ t v, look (S.startT A U fn.ntmps args).env t = some v → ∃ u, vals[t]? = some u ∧ RV1 (look []) (fun _ => none) w ⟨fun _ => False, A⟩ v u ∧ v.bd 0 := fun t v ht => by
      obtain ⟨x, hx, rfl⟩ := hlk t v ht
      obtain ⟨u, hu, hr⟩ := hUs t x hx
      refine ⟨u, hu, hr.rva (List.all_eq_true.1 hpl x (List.mem_of_getElem? hx)), ?_⟩
      have := hr.bd (n := 0)
      cases x <;> first | exact this | exact hr.elim
    refine ⟨fun _ => none, ⟨fun _ => False, A⟩, rfl, rfl, rfl, Nat.le_refl _, fun _ _ _ => rfl, fun _ _ _ h => h, fun i hi => absurd hi (Nat.not_lt_zero i), rfl, fun b hb => hb.elim, ?_, ?_, ?_, ?_, ?_, ?_, ?_, ?_, rfl⟩
    · rintro b (hb | hb)
      · exact hb.elim
      · exact hA b hb
    · intro id o ho; simp [S.startT] at ho
    · intro id b t h1; simp [S.startT] at h1
    · intro i j b t u h1; simp [S.startT] at h1
    · simp [S.startT]; omega
    · intro t v ht
      obtain ⟨u, hu, hr, _⟩ := hread t v ht
      have hlt : t < vals.size := (Array.getElem?_eq_some_iff.1 hu).1
      have e : (vals ++ Array.replicate (fn.ntmps - vals.size) undef).getD t undef = u := by
        simp [Array.getElem?_append_left hlt, hu]
      show RV _ _ _ _ _ ((vals ++ Array.replicate (fn.ntmps - vals.size) undef).getD t undef)
      rw [e]
      cases v <;> first | exact hr | exact hr.elim
    · intro id o ho; simp [S.startT] at ho
    · intro t v ht
      obtain ⟨u, _, _, hb⟩ := hread t v ht
      exact hb
  have h := h A U
  rw [fS_eq] at h
  refine calls_of_wp hf hb (wp_mono (vc_ok hT hm _ _ _ h w ⟨fun _ => False, 0, fun _ => none, fun _ => False⟩ A _ w ⟨rfl, hgt, fun _ h => h.elim⟩ hstart) fun e a w' ⟨s, ⟨L, F, hr⟩, he⟩ => ?_)
  have key : endF T false fn r s → a.defers = [] ∧ ∃ v, (results fn a.tmps).run P w' = .ok v w' ∧ ∃ (v' : Value) (F : Nat → Prop) (bs : List Nat), Ending.returned v = .returned v' ∧ Below w.heap.size w w' ∧
      (∀ b, F b → b < w'.heap.size ∧ (w.heap.size ≤ b ∨ (false = true ∧ A b))) ∧ OV w' F r v' bs ∧ bs.Nodup ∧ ∀ b ∈ bs, w.heap.size ≤ b ∧ b < w'.heap.size ∧ ¬ F b := fun he => by
    obtain ⟨v, hres, G, bs, h1, h2, h3, h4, h5⟩ := ends_ok hT hr hA (endF_ok he)
    exact ⟨hr.df, v, hres, v, G, bs, rfl, h1, h2, h3, h4, h5⟩
  cases e <;> first | exact key he | exact he.elim

end Mg

/- The abstract state logic, part 34: a result of its own, read as frozen. No condition. -/
namespace Mg
open Go Go.RowKit
set_option linter.unusedVariables false
def MC.fr : MC → MC
  | .own rows => .fz rows
  | c => c
def frV1 : MV → MV
  | .one c => .one c.fr
  | .agg cs => .agg (cs.map MC.fr)
  | v => v
def frV : MV → MV
  | .tup vs => .tup (vs.map frV1)
  | v => frV1 v
theorem OwnB.rf {w : World} {F F' : Nat → Prop} {b s cap : Nat} {rows : List (List MC)} (h : OwnB w F b s cap rows) (hF : ∀ b, F b → F' b) (hb : F' b) :
    RF w F' (.fz rows) (.slice (some ⟨b, 0, none⟩) rows.length cap) := by
  obtain ⟨_, hne, hs, hcap, _, hc⟩ := h
  refine RF.mk hcap fun _ => ⟨b, 0, s, rfl, hb, hs, fun i j r c h1 h2 => ?_⟩
  obtain ⟨u, hu, hr⟩ := hc i r h1 j c h2
  exact ⟨u, by rw [Nat.zero_add]; exact hu, hr.mono (fun _ _ => rfl) hF⟩
theorem OC.fr {w : World} {F F' : Nat → Prop} (hF : ∀ b, F b → F' b) {cs : List MC} {vs : List Value} {bs : List Nat} (h : OC w F cs vs bs) (hb : ∀ b ∈ bs, F' b) : OC w F' (cs.map MC.fr) vs [] := by
  induction h with
  | nil => exact .nil
  | fz h t ih =>
    have e := h.frz
    rename_i c v cs vs bs
    have : c.fr = c := by cases c <;> first | rfl | cases e
    rw [List.map_cons, this]
    exact .fz (h.mono (fun _ _ => rfl) hF) (ih hb)
  | own0 t ih => exact .fz (.nilz _ 0) (ih hb)
  | own h t ih => exact .fz (h.rf hF (hb _ (by simp))) (ih fun b hb' => hb b (by simp [hb']))
theorem OV1.fr {w : World} {F F' : Nat → Prop} (hF : ∀ b, F b → F' b) {x : MV} {v : Value} {bs : List Nat} (h : OV1 w F x v bs) (hb : ∀ b ∈ bs, F' b) : OV1 w F' (frV1 x) v [] := by
  cases x with
  | one c => exact OC.fr hF h hb
  | agg cs => obtain ⟨arr, rfl, h⟩ := h; exact ⟨arr, rfl, h.fr hF hb⟩
  | _ => exact h.elim
theorem OT.fr {w : World} {F F' : Nat → Prop} (hF : ∀ b, F b → F' b) {xs : List MV} {vs : List Value} {bs : List Nat} (h : OT w F xs vs bs) (hb : ∀ b ∈ bs, F' b) : OT w F' (xs.map frV1) vs [] := by
  induction h with
  | nil => exact .nil
  | cons h t ih => exact .cons (b1 := []) (b2 := []) (h.fr hF fun b h1 => hb b (List.mem_append_left _ h1)) (ih fun b h1 => hb b (List.mem_append_right _ h1))
theorem OV.fr {w : World} {F F' : Nat → Prop} (hF : ∀ b, F b → F' b) {x : MV} {v : Value} {bs : List Nat} (h : OV w F x v bs) (hb : ∀ b ∈ bs, F' b) : OV w F' (frV x) v [] := by
  cases x with
  | tup xs => obtain ⟨arr, rfl, h⟩ := h; exact ⟨arr, rfl, h.fr hF hb⟩
  | one c => exact OV1.fr (x := .one c) hF h hb
  | agg cs => exact OV1.fr (x := .agg cs) hF h hb
  | un => exact h.elim
theorem Pure.fr {P : Program} {sh : Bool} {f : Nat} {args : List MV} {r : MV} (h : Pure P sh f args r) : Pure P sh f args (frV r) := by
  refine ⟨h.1, fun w A vals h1 h2 h3 h4 => (h.2 w A vals h1 h2 h3 h4).mono fun e w' ⟨v, F, bs, he, hB, hF, hO, hn, hb⟩ => ?_⟩
  refine ⟨v, fun b => F b ∨ b ∈ bs, [], he, hB, fun b hb' => ?_, hO.fr (fun _ => .inl) (fun _ => .inr), List.nodup_nil, fun b h => by cases h⟩
  rcases hb' with h | h
  · exact hF b h
  · exact ⟨(hb b h).2.1, .inl (hb b h).1⟩
theorem Pure.to {P : Program} {sh : Bool} {f : Nat} {args : List MV} {r r' : MV} (h : Pure P sh f args r) (e : frV r = r') : Pure P sh f args r' := e ▸ h.fr
end Mg

/- The abstract state logic, part 26: a contract with objects out of the body. No condition. -/
namespace Mg
open Go Go.RowKit
set_option linter.unusedVariables false

variable {P : Program} {T : Tab}

def obFrom : Nat → List Ob → List (Nat × Ob)
  | _, [] => []
  | k, o :: os => (k, o) :: obFrom (k + 1) os
theorem look_obFrom : ∀ (os : List Ob) (k j : Nat), look (obFrom k os) j = if k ≤ j then os[j - k]? else none
  | [], k, j => by simp [obFrom]
  | x :: xs, k, j => by
    rw [obFrom, look_cons, look_obFrom xs (k + 1) j]
    by_cases e : j = k
    · subst e; simp
    · by_cases h : k ≤ j
      · rw [if_neg e, if_pos (by omega), if_pos h, show j - k = (j - (k + 1)) + 1 by omega, List.getElem?_cons_succ]
      · rw [if_neg e, if_neg (by omega), if_neg h]
theorem look_ob (os : List Ob) : look (obFrom 0 os) = nth os := funext fun j => by rw [look_obFrom]; simp [nth]
def mvFrom : Nat → List MV → List (Nat × MV)
  | _, [] => []
  | k, x :: xs => (k, x) :: mvFrom (k + 1) xs
theorem look_mvFrom : ∀ (xs : List MV) (k j : Nat), look (mvFrom k xs) j = if k ≤ j then xs[j - k]? else none
  | [], k, j => by simp [mvFrom]
  | x :: xs, k, j => by
    rw [mvFrom, look_cons, look_mvFrom xs (k + 1) j]
    by_cases e : j = k
    · subst e; simp
    · by_cases h : k ≤ j
      · rw [if_neg e, if_pos (by omega), if_pos h, show j - k = (j - (k + 1)) + 1 by omega, List.getElem?_cons_succ]
      · rw [if_neg e, if_neg (by omega), if_neg h]

def S.from (m : Nat) (args : List MV) (os : List Ob) : S := ⟨m, os.length, mvFrom 0 args, obFrom 0 os⟩
def tmps0 (m : Nat) (vals : Array Value) : Act := { tmps := vals ++ Array.replicate (m - vals.size) undef, defers := [] }
theorem tmps0_get {m : Nat} {vals : Array Value} {t : Nat} {u : Value} (h : vals[t]? = some u) : (tmps0 m vals).tmps.getD t undef = u := by
  have hlt : t < vals.size := (Array.getElem?_eq_some_iff.1 h).1
  have h2 : vals[t] = u := (Array.getElem?_eq_some_iff.1 h).2
  simp [tmps0, Array.getElem?_append_left hlt, hlt, h2]

def wrOf (L : Lay) (k : Nat) (A : Nat → Prop) : Wr := ⟨fun b => ∃ i t, i < k ∧ L i = some (b, t), k, L, A⟩

theorem from_rel {w : World} {N A : Nat → Prop} {L : Lay} {vals : Array Value} {args : List MV} {os : List Ob} {m : Nat} (hs : vals.size = args.length) (hm : args.length ≤ m) (hA : ∀ b, A b → b < w.heap.size) (hN : ∀ b, N b → A b)
    (hobs : ObsOK w ⟨N, A⟩ L os) (h : ∀ (j : Nat) (x : MV), args[j]? = some x → ∃ v : Value, vals[j]? = some v ∧ RV (nth os) L w ⟨N, A⟩ x v ∧ x.bd os.length) :
    Rl w (wrOf L os.length N) A L ⟨N, A⟩ (S.from m args os) (tmps0 m vals) w := by
  have hl : look (S.from m args os).st = nth os := look_ob os
  have hlt : ∀ i o, nth os i = some o → i < os.length := fun i o ho => (List.getElem?_eq_some_iff.1 ho).1
  have hsm : ∀ i, (nth os i).isSome = true → i < os.length := fun i hi => by
    obtain ⟨o, ho⟩ := Option.isSome_iff_exists.1 hi; exact hlt i o ho
  refine ⟨rfl, rfl, rfl, Nat.le_refl _, fun _ _ _ => rfl, fun _ _ _ h => h, fun i hi => ⟨rfl, hi⟩, rfl, fun b hb => .inr (.inr hb), fun b hb => hb.elim (fun h => hA b (hN b h)) (hA b), ?_, ?_, ?_, ?_, ?_, ?_, ?_, rfl⟩
  · intro i o ho; rw [hl] at ho ⊢; exact hobs.ob i o ho
  · intro i b t h1 h2
    rw [hl] at h1
    have := hobs.nf i b t (hsm i h1) h2
    exact ⟨this.1, this.2, .inr ⟨i, t, hsm i h1, h2⟩⟩
  · intro i j b t u h1 h2 h3 h4
    rw [hl] at h1 h2
    exact hobs.inj i j b t u (hsm i h1) (hsm j h2) h3 h4
  · simp [tmps0, S.from]; omega
  · intro t v hv
    have hv : look (mvFrom 0 args) t = some v := hv
    rw [look_mvFrom] at hv
    obtain ⟨u, hu, hr, _⟩ := h t v (by simpa using hv)
    rw [hl, tmps0_get hu]
    exact hr
  · intro i o ho
    rw [hl] at ho
    exact ⟨hlt i o ho, hobs.bd o (List.mem_of_getElem? ho)⟩
  · intro t v hv
    have hv : look (mvFrom 0 args) t = some v := hv
    rw [look_mvFrom] at hv
    obtain ⟨u, _, _, hb⟩ := h t v (by simpa using hv)
    exact hb

/- ------------------------------------------------ the end -/
def frzC (s : S) (fs : List Nat) : MC → MC
  | .ref id off len => match fs.contains id, look s.st id with
    | true, some (.arr rows) => .fz ((rows.drop off).take len)
    | _, _ => .ref id off len
  | .nil => .fz []
  | c => c
def frzV (s : S) (fs : List Nat) : MV → MV
  | .one c => .one (frzC s fs c)
  | .agg cs => .agg (cs.map (frzC s fs))
  | v => v
def flatV : MV → Bool
  | .one _ => true
  | .agg _ => true
  | _ => false
def outV (T : Tab) (s : S) (rs : List ResultVar) : Option (Prop × List MV) := resL T s rs
/-- A result, as the slots of the last state. -/
def resOf : MV → List MV
  | .tup xs => xs
  | x => [x]
def bdV1 (n : Nat) : MV → Prop
  | .one c => bdC n c
  | .agg cs => bdL n cs
  | _ => False
def bdVs (n : Nat) : List MV → Prop
  | [] => True
  | v :: vs => bdV1 n v ∧ bdVs n vs
theorem bdVs_ok {n : Nat} : ∀ {vs : List MV}, bdVs n vs → ∀ v ∈ vs, v.bd n ∧ flatV v = true
  | [], _, v, hv => by simp at hv
  | x :: xs, h, v, hv => by
    rcases List.mem_cons.1 hv with rfl | hv
    · have h1 := h.1
      cases v <;> first | exact ⟨bdC_ok h1, rfl⟩ | exact ⟨bdL_ok h1, rfl⟩ | exact h1.elim
    · exact bdVs_ok h.2 v hv

theorem frzV_ok {w : World} {L : Lay} {F F' : FF} {s : S} {fs : List Nat} (hrc : ∀ x u, RC (look s.st) L w F x u → RC (look (s.dels fs).st) L w F' x u)
    (hfz : ∀ id ∈ fs, ∀ rows, look s.st id = some (.arr rows) → ∀ off len v, RC (look s.st) L w F (.ref id off len) v → RF w F'.n (.fz ((rows.drop off).take len)) v) {x : MV} {u : Value} (hf : flatV x = true) (h : RV (look s.st) L w F x u) :
    RV1 (look (s.dels fs).st) L w F' (frzV s fs x) u := by
  have hc : ∀ c u, RC (look s.st) L w F c u → RC (look (s.dels fs).st) L w F' (frzC s fs c) u := fun c u hr => by
    cases c <;> try exact hrc _ u hr
    case ref id off len =>
      simp only [frzC]
      split
      · rename_i rows h1 h2
        exact hfz id (by simpa using h1) rows h2 off len u hr
      · exact hrc _ u hr
    case nil =>
      obtain ⟨a, rfl⟩ := hr
      exact RF.nilz a 0
  cases x with
  | one c => exact hc c u h
  | agg cs =>
    obtain ⟨arr, rfl, h1, h2⟩ := h
    refine ⟨arr, rfl, by simpa using h1, fun j c hj => ?_⟩
    rw [List.getElem?_map] at hj
    obtain ⟨d, hd, rfl⟩ := Option.map_eq_some_iff.1 hj
    obtain ⟨v, hv, hr⟩ := h2 j d hd
    exact ⟨v, hv, hc d v hr⟩
  | _ => simp [flatV] at hf

/-- What the last state must be, reckoned. -/
def conEnd (T : Tab) (k : Nat) (fn : Func) {D : Type} (p : D → Prop) (r : D → MV) (os' : D → List Ob) (s : S) : Prop :=
  match resL T s fn.results.toList with
  | some (q, vs) => Side q ∧ ∃ (d : D) (bl : List (Nat × Nat)) (fs : List Nat), p d ∧ Chk (decide fs.Nodup) ∧ (match passF s fs with
    | some qf => Side qf
    | none => False) ∧ bdVs s.n (vs.map (frzV s fs)) ∧ Chk (Nat.ble vs.length s.m && Nat.ble k (os' d).length && Nat.beq (resOf (r d)).length vs.length && (match r d with | .tup _ => !(Nat.beq vs.length 1) | _ => true)) ∧ bdVs (os' d).length (resOf (r d)) ∧
      subC k bl ⟨s.m, (os' d).length, mvFrom 0 (resOf (r d)), obFrom 0 (os' d)⟩ ⟨s.m, s.n, mvFrom 0 (vs.map (frzV s fs)), delL s.st fs⟩
  | none => False

def conE (T : Tab) (k : Nat) (fn : Func) {D : Type} (p : D → Prop) (r : D → MV) (os' : D → List Ob) : Exit → S → Prop
  | .normal, s => conEnd T k fn p r os' s
  | .ret, s => conEnd T k fn p r os' s
  | _, _ => False

theorem Rl.unpin {w0 : World} {wr : Wr} {A : Nat → Prop} {L : Lay} {F : FF} {s : S} {a : Act} {w : World} (h : Rl w0 wr A L F s a w) {k : Nat} (hk : k ≤ wr.k) : Rl w0 { wr with k := k } A L F s a w :=
  ⟨h.os, h.tape, h.output, h.size, h.keep, h.kc, fun i hi => h.pin i (Nat.lt_of_lt_of_le hi hk), h.fa, h.fn, h.fsz, h.ob, h.own, h.inj, h.sz, h.env, h.bst, h.ben, h.df⟩

theorem conEnd_ok {w : World} {N A : Nat → Prop} {L L1 : Lay} {F : FF} {s : S} {a : Act} {w' : World} {m k : Nat} (hkm : k ≤ m) (hT : TOk P T) (h : Rl w (wrOf L m N) A L1 F s a w') {fn : Func} {D : Type} {p : D → Prop} {r : D → MV} {os' : D → List Ob} (he : conEnd T k fn p r os' s) :
    ∃ v, (results fn a.tmps).run P w' = .ok v w' ∧ ∃ (d : D) (L' : Lay) (F' : Nat → Prop), p d ∧ ConPost w N A L m k (r d) (os' d) v w' L' F' := by
  unfold conEnd at he
  split at he
  case h_2 => exact he.elim
  rename_i q vs hres
  obtain ⟨⟨hq⟩, d, bl, fs, hpd, ⟨hnd⟩, hpf, hbd, ⟨hchk⟩, hbr, hsub⟩ := he
  split at hpf
  case h_2 => exact hpf.elim
  rename_i qf hpf'
  simp only [Bool.and_eq_true] at hchk
  obtain ⟨⟨⟨hc1, hc2⟩, hc3⟩, hc4⟩ := hchk
  have hc1 := Nat.le_of_ble_eq_true hc1
  have hc2 := Nat.le_of_ble_eq_true hc2
  have hc3 := Nat.eq_of_beq_eq_true hc3
  obtain ⟨us, hus, hlen, hr⟩ := resL_ok hT h hres hq
  have harr : (results fn a.tmps).run P w' = .ok (if h : us.toArray.size = 1 then us.toArray[0] else .tuple us.toArray) w' := by
    rw [results_list]
    have : ∀ arr : Array ResultVar, arr.mapM (resS a.tmps) = List.toArray <$> arr.toList.mapM (resS a.tmps) := fun arr => by
      cases arr; exact List.mapM_toArray
    rw [Sem.run_bind, this, Sem.run_map, hus]
    rfl
  refine ⟨_, harr, d, ?_⟩
  obtain ⟨F2, hR2, hle, hrc, hout, hfz⟩ := frz_all fs h (of_decide_eq_true hnd) (passF_ok hpf' hpf.h)
  have hvb := bdVs_ok hbd
  -- the last state, with the results in the slots
  have hR3 : Rl w (wrOf L m N) A L1 F2 ⟨s.m, s.n, mvFrom 0 (vs.map (frzV s fs)), delL s.st fs⟩ (tmps0 s.m us.toArray) w' := by
    refine ⟨hR2.os, hR2.tape, hR2.output, hR2.size, hR2.keep, hR2.kc, hR2.pin, hR2.fa, hR2.fn, hR2.fsz, hR2.ob, hR2.own, hR2.inj, ?_, ?_, hR2.bst, ?_, rfl⟩
    · simp [tmps0]; omega
    · intro t v hv
      have hv : look (mvFrom 0 (vs.map (frzV s fs))) t = some v := hv
      rw [look_mvFrom] at hv
      obtain ⟨x, hx, rfl⟩ := Option.map_eq_some_iff.1 (by simpa using hv : (vs[t]?).map (frzV s fs) = some v)
      obtain ⟨u, hu, hru⟩ := hr t x hx
      have hfl : flatV x = true := by
        have := (hvb (frzV s fs x) (List.mem_map.2 ⟨x, List.mem_of_getElem? hx, rfl⟩)).2
        cases x <;> first | rfl | (simp [frzV, flatV] at this)
      have := frzV_ok hrc hfz hfl hru
      rw [tmps0_get (u := u) (by simpa using hu)]
      cases hx' : frzV s fs x <;> rw [hx'] at this <;> first | exact this | (cases x <;> simp [frzV, flatV] at hfl hx')
    · intro t v hv
      have hv : look (mvFrom 0 (vs.map (frzV s fs))) t = some v := hv
      rw [look_mvFrom] at hv
      exact (hvb v (List.mem_of_getElem? (by simpa using hv))).1
  have hR4 := (hR3.unpin (k := k) hkm).ren (subC_ok hsub) (subC_pin hsub)
  have hF2 : F2 = ⟨F2.n, A⟩ := by
    have := hR4.fa
    cases F2; simp at this; rw [this]
  have hl : look (S.st ⟨s.m, (os' d).length, mvFrom 0 (resOf (r d)), obFrom 0 (os' d)⟩) = nth (os' d) := look_ob _
  have hlt : ∀ i o, nth (os' d) i = some o → i < (os' d).length := fun i o ho => (List.getElem?_eq_some_iff.1 ho).1
  have hsm : ∀ i, i < (os' d).length → (nth (os' d) i).isSome = true := fun i hi => by
    show ((os' d)[i]?).isSome = true; rw [List.getElem?_eq_getElem hi]; rfl
  have hpin := hR4.pin
  have hrbs := bdVs_ok hbr
  -- a block that was handed over is a kept object's, or it was used up
  have hold : ∀ b, (∃ i t, i < m ∧ L i = some (b, t)) → (∃ i t, i < k ∧ (nth (os' d) i).isSome = true ∧ L1 ((look bl i).getD i) = some (b, t)) ∨ ∃ j u, k ≤ j ∧ j < m ∧ L j = some (b, u) := fun b ⟨i, t, hi, hL⟩ => by
    by_cases hik : k ≤ i
    · exact .inr ⟨i, t, hik, hi, hL⟩
    · exact .inl ⟨i, t, by omega, hsm i (by omega), ((hpin i (by show i < k; omega)).1).trans hL⟩
  refine ⟨_, F2.n, hpd, ⟨hR4.os, hR4.tape, hR4.output, hR4.size, fun b hb hn => hR4.keep b hb (fun ⟨i, t, hi, hL⟩ => hn i t hi hL), hR4.kc, fun b hb hnA => ?_, hc2, fun i hi => (hpin i hi).1, fun i b t hi hlt' hL => ?_, ⟨fun i o ho => ?_, fun i j b t u hi hj h3 h4 => ?_, fun i b t hi h3 => ?_, fun o ho => ?_⟩, ?_, ?_⟩⟩
  · rcases hR4.fn b hb with h1 | h1 | h1
    · exact .inl ⟨h1, hR4.fsz b (.inl hb)⟩
    · rcases hold b h1 with ⟨i, t, hi, hs', hL⟩ | h2
      · exact absurd (.inl hb) (hR4.own i b t (by rw [hl]; exact hs') hL).1
      · exact .inr h2
    · exact absurd h1 hnA
  · have ho := hR4.own i b t (by rw [hl]; exact hsm i hlt') hL
    rcases ho.2.2 with h1 | h1
    · exact .inl h1
    · rcases hold b h1 with ⟨j, u, hj, hs', hLj⟩ | h2
      · have := hR4.inj i j b t u (by rw [hl]; exact hsm i hlt') (by rw [hl]; exact hs') hL hLj
        omega
      · exact .inr h2
  · have := hR4.ob i o (by rw [hl]; exact ho)
    rw [hl, hF2] at this; exact this
  · exact hR4.inj i j b t u (by rw [hl]; exact hsm i hi) (by rw [hl]; exact hsm j hj) h3 h4
  · have := hR4.own i b t (by rw [hl]; exact hsm i hi) h3
    rw [hF2] at this
    exact ⟨this.1, this.2.1⟩
  · obtain ⟨i, hi⟩ := List.getElem?_of_mem ho
    exact (hR4.bst i o (by rw [hl]; exact hi)).2
  · have hslot : ∀ j x, (resOf (r d))[j]? = some x → ∃ u, us[j]? = some u ∧ RV1 (nth (os' d)) (fun i => L1 ((look bl i).getD i)) w' ⟨F2.n, A⟩ x u := fun j x hj => by
      have hjl := (List.getElem?_eq_some_iff.1 hj).1
      have hju : j < us.length := by omega
      have := hR4.env j x (by
        show look (mvFrom 0 (resOf (r d))) j = _
        rw [look_mvFrom]; simpa using hj)
      rw [hl, hF2, tmps0_get (u := us[j]) (by simp [hju])] at this
      refine ⟨us[j], List.getElem?_eq_getElem hju, ?_⟩
      have hfl := (hrbs x (List.mem_of_getElem? hj)).2
      cases x <;> first | exact this | (simp [flatV] at hfl)
    cases hrd : r d with
    | tup xs =>
      rw [hrd] at hslot hc3 hc4
      have hc4 : vs.length ≠ 1 := fun e => by rw [e] at hc4; cases hc4
      have hne : us.toArray.size ≠ 1 := by simpa [hlen] using hc4
      rw [dif_neg hne]
      exact ⟨us.toArray, rfl, (by show us.length = xs.length; rw [hlen]; exact hc3.symm), fun j x hj => by
        obtain ⟨u, hu, hx⟩ := hslot j x hj
        exact ⟨u, by simpa using hu, hx⟩⟩
    | one c =>
      rw [hrd] at hslot hc3
      have hc3 : 1 = vs.length := hc3
      obtain ⟨u, hu, hx⟩ := hslot 0 (.one c) rfl
      have h1 : us.toArray.size = 1 := by simp; omega
      rw [dif_pos h1]
      have : us[0]? = some u := hu
      have hu0 : us.toArray[0] = u := by
        have := (List.getElem?_eq_some_iff.1 hu).2; simpa using this
      rw [hu0]; exact hx
    | agg cs =>
      rw [hrd] at hslot hc3
      have hc3 : 1 = vs.length := hc3
      obtain ⟨u, hu, hx⟩ := hslot 0 (.agg cs) rfl
      have h1 : us.toArray.size = 1 := by simp; omega
      rw [dif_pos h1]
      have hu0 : us.toArray[0] = u := by
        have := (List.getElem?_eq_some_iff.1 hu).2; simpa using this
      rw [hu0]; exact hx
    | un =>
      rw [hrd] at hrbs
      have := (hrbs .un (by simp [resOf])).2
      simp [flatV] at this
  · cases hrd : r d with
    | tup xs =>
      rw [hrd] at hrbs
      intro x hx
      have := hrbs x hx
      cases x <;> first | exact this.1 | (simp [flatV] at this)
    | one c => rw [hrd] at hrbs; exact (hrbs (.one c) (by simp [resOf])).1
    | agg cs => rw [hrd] at hrbs; exact (hrbs (.agg cs) (by simp [resOf])).1
    | un => trivial

/-- A CONTRACT with objects, out of its reckoning. -/
theorem Con.vc {f : Nat} {fn : Func} {c : Code} {args : List MV} {os : List Ob} {D : Type} {p : D → Prop} {r : D → MV} {os' : D → List Ob} {k : Nat} (hs : List (Nat × Hint)) (hT : TOk P T) (hm : P.follows .mixedOrders = true) (hf : P.funcs[f]? = some fn) (hk : Nat.ble k os.length = true)
    (hn : (fn.name == "runtime.NumGoroutine") = false) (hb : fn.body = some c) (hl : Nat.ble args.length fn.ntmps = true)
    (h : fS (S.from fn.ntmps args os) fun s => Mg.vc os.length P T c hs s (conE T k fn p r os')) : Con P f args os k p r os' := by
  rw [fS_eq] at h
  refine ⟨⟨fn, hf, hn, by rw [hb]; rfl⟩, ?_⟩
  intro w N A L vals hsz hA hN hobs hv hgt
  refine calls_of_wp hf hb (wp_mono (vc_ok hT hm _ _ _ h w (wrOf L os.length N) A _ w ⟨rfl, hgt, hN⟩ ⟨_, _, from_rel hsz (Nat.le_of_ble_eq_true hl) hA hN hobs hv⟩) fun e a w' ⟨s, ⟨L1, F1, hr⟩, he⟩ => ?_)
  have key : conEnd T k fn p r os' s → a.defers = [] ∧ ∃ v, (results fn a.tmps).run P w' = .ok v w' ∧ ∃ (d : D) (v' : Value) (L' : Lay) (F : Nat → Prop), Ending.returned v = .returned v' ∧ p d ∧ ConPost w N A L os.length k (r d) (os' d) v' w' L' F := fun he => by
    obtain ⟨v, h1, d, L', F', h2, h3⟩ := conEnd_ok (Nat.le_of_ble_eq_true hk) hT hr he
    exact ⟨hr.df, v, h1, d, v, L', F', rfl, h2, h3⟩
  cases e <;> first | exact key he | exact he.elim

end Mg
