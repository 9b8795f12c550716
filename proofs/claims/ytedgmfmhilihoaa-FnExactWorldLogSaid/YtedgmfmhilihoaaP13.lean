/- Parts of the abstract state logic and of the walks, one behind the other: Mg40, Mg41, Mg27, Mg28, Mg35, Mg36. No condition. -/
import Derived.Test.YtedgmfmhilihoaaP12
import Derived.Test.YtedgmfmhilihoaaP11
/- The abstract state logic, part 40: functions that write into trees, out of their bodies; flat functions as makers of trees. No condition. -/
namespace Mg
open Go Go.RowKit
set_option linter.unusedVariables false

variable {P : Program} {T : Tab}

theorem OC.tr {w : World} {F : Nat → Prop} {cs : List MC} {vs : List Value} {bs : List Nat} (h : OC w F cs vs bs) (hlt : ∀ b ∈ bs, b < w.heap.size) (hsc : ∀ c ∈ cs, (∃ v, c = .sc v) ∨ ∃ rows, c = .own rows ∧ ∀ r ∈ rows, ∀ c ∈ r, ∃ v, c = .sc v) (hnd : bs.Nodup) :
    vs.length = cs.length ∧ ∃ B : Nat → Tk, (∀ (j : Nat) (c : MC), cs[j]? = some c → ∃ u : Value, vs[j]? = some u ∧ RT w (labc true (B j) c.fr) u) ∧ (∀ j x, (B j).B x → x ∈ bs) ∧ ∀ j j' x, (B j).B x → (B j').B x → j = j' := by
  induction h with
  | nil => exact ⟨rfl, fun _ => ⟨fun _ => False, undef⟩, fun j c hj => by simp at hj, fun _ _ h => h.elim, fun _ _ _ h => h.elim⟩
  | fz h t ih =>
    rename_i c v cs vs bs
    obtain ⟨h1, B, h2, h3, h4⟩ := ih hlt (fun c hc => hsc c (List.mem_cons_of_mem _ hc)) hnd
    refine ⟨by simp [h1], fun j => match j with | 0 => ⟨fun _ => False, undef⟩ | j + 1 => B j, fun j c' hj => ?_, fun j x hx => ?_, fun j j' x hx hx' => ?_⟩
    · cases j with
      | zero =>
        obtain rfl := Option.some.inj hj
        rcases hsc c (by simp) with ⟨u, rfl⟩ | ⟨rows, rfl, _⟩
        · cases h with | sc _ h => exact ⟨_, rfl, rfl, h⟩
        · cases h
      | succ j => exact h2 j c' hj
    · cases j with
      | zero => exact hx.elim
      | succ j => exact h3 j x hx
    · cases j with
      | zero => exact hx.elim
      | succ j => cases j' with
        | zero => exact hx'.elim
        | succ j' => rw [h4 j j' x hx hx']
  | own0 t ih =>
    rename_i a cs vs bs
    obtain ⟨h1, B, h2, h3, h4⟩ := ih hlt (fun c hc => hsc c (List.mem_cons_of_mem _ hc)) hnd
    refine ⟨by simp [h1], fun j => match j with | 0 => ⟨fun _ => False, .slice a 0 0⟩ | j + 1 => B j, fun j c' hj => ?_, fun j x hx => ?_, fun j j' x hx hx' => ?_⟩
    · cases j with
      | zero =>
        obtain rfl := Option.some.inj hj
        exact ⟨_, rfl, rfl, TR.nilz a _ fun _ h => h⟩
      | succ j => exact h2 j c' hj
    · cases j with
      | zero => exact hx.elim
      | succ j => exact h3 j x hx
    · cases j with
      | zero => exact hx.elim
      | succ j => cases j' with
        | zero => exact hx'.elim
        | succ j' => rw [h4 j j' x hx hx']
  | own h t ih =>
    rename_i b s cap rows cs vs bs
    obtain ⟨hnb, hnd⟩ := List.nodup_cons.1 hnd
    obtain ⟨h1, B, h2, h3, h4⟩ := ih (fun b hb => hlt b (List.mem_cons_of_mem _ hb)) (fun c hc => hsc c (List.mem_cons_of_mem _ hc)) hnd
    refine ⟨by simp [h1], fun j => match j with | 0 => ⟨fun x => x = b, .slice (some ⟨b, 0, none⟩) rows.length cap⟩ | j + 1 => B j, fun j c' hj => ?_, fun j x hx => ?_, fun j j' x hx hx' => ?_⟩
    · cases j with
      | zero =>
        obtain rfl := Option.some.inj hj
        rcases hsc (.own rows) (by simp) with ⟨u, hu⟩ | ⟨rows', he, hr⟩
        · cases hu
        · obtain rfl := MC.own.inj he
          exact ⟨_, rfl, rfl, h.tr hr (hlt b (by simp))⟩
      | succ j => exact h2 j c' hj
    · cases j with
      | zero => have hx : x = b := hx; subst hx; simp
      | succ j => exact List.mem_cons_of_mem _ (h3 j x hx)
    · cases j with
      | zero => cases j' with
        | zero => rfl
        | succ j' => have hx : x = b := hx; subst hx; exact absurd (h3 j' _ hx') hnb
      | succ j => cases j' with
        | zero => have hx' : x = b := hx'; subst hx'; exact absurd (h3 j _ hx) hnb
        | succ j' => rw [h4 j j' x hx hx']

/-- A flat function, as a maker of trees. -/
def flat1 : MV → Prop
  | .one c => (∃ v, c = .sc v) ∨ ∃ rows, c = .own rows ∧ ∀ r ∈ rows, ∀ c ∈ r, ∃ v, c = .sc v
  | .agg cs => ∀ c ∈ cs, (∃ v, c = .sc v) ∨ ∃ rows, c = .own rows ∧ ∀ r ∈ rows, ∀ c ∈ r, ∃ v, c = .sc v
  | _ => False
theorem Pure.toT {f : Nat} {args : List MV} {r r' : MV} (h : Pure P false f args r) (hf : flat1 r) (e : frV1 r = r') : TPure P f args r' := by
  subst e
  refine ⟨h.1, fun w A vals h1 h2 h3 h4 => (h.2 w A vals h1 h2 h3 h4).mono fun e w' ⟨v, F, bs, he, hbel, hF, hov, hnd, hbs⟩ => ?_⟩
  have hlt : ∀ b ∈ bs, b < w'.heap.size := fun b hb => (hbs b hb).2.1
  cases r with
  | one c =>
    obtain ⟨g1, B, g2, g3, g4⟩ := OC.tr (cs := [c]) hov hlt (fun c' hc' => by have e : c' = c := (by simpa using hc'); rw [e]; exact hf) hnd
    obtain ⟨u, hu, hr⟩ := g2 0 c rfl
    obtain rfl := Option.some.inj hu
    refine ⟨v, fun i j => match i with | 0 => B j | _ + 1 => ⟨fun _ => False, undef⟩, he, hbel, hr, ?_, ?_⟩
    · intro i j i' j' x k1 k2
      cases i <;> cases i' <;> first | exact k1.elim | exact k2.elim | exact ⟨rfl, g4 j j' x k1 k2⟩
    · rintro b ⟨i, j, hb⟩
      cases i <;> first | exact hb.elim | skip
      have := hbs b (g3 j b hb); exact ⟨this.1, this.2.1⟩
  | agg cs =>
    obtain ⟨arr, rfl, hoc⟩ := hov
    obtain ⟨g1, B, g2, g3, g4⟩ := OC.tr hoc hlt hf hnd
    refine ⟨.agg arr, fun i j => match i with | 0 => B j | _ + 1 => ⟨fun _ => False, undef⟩, he, hbel, ⟨arr, rfl, by rw [labRow_len, List.length_map]; simpa using g1, fun j c hj => ?_⟩, ?_, ?_⟩
    · rw [labRow_get] at hj
      obtain ⟨d, hd, rfl⟩ := Option.map_eq_some_iff.1 hj
      rw [List.getElem?_map] at hd
      obtain ⟨c0, hc0, rfl⟩ := Option.map_eq_some_iff.1 hd
      obtain ⟨u, hu, hr⟩ := g2 j c0 hc0
      exact ⟨u, by simpa using hu, by rw [Nat.zero_add]; exact hr⟩
    · intro i j i' j' x k1 k2
      cases i <;> cases i' <;> first | exact k1.elim | exact k2.elim | exact ⟨rfl, g4 j j' x k1 k2⟩
    · rintro b ⟨i, j, hb⟩
      cases i <;> first | exact hb.elim | skip
      have := hbs b (g3 j b hb); exact ⟨this.1, this.2.1⟩
  | un => exact hf.elim
  | tup _ => exact hf.elim

/- ------------------------------------------------ functions that write -/
/-- Cells of one make. -/
def like (c c' : MC) : Prop := match c, c' with
  | .sc _, .sc _ => True
  | .fz _, .fz _ => True
  | _, _ => False
def likeR (rows rows' : List (List MC)) : Prop := rows.length = rows'.length ∧ ∀ (i : Nat) (r r' : List MC), rows[i]? = some r → rows'[i]? = some r' → r.length = r'.length ∧ ∀ (j : Nat) (c c' : MC), r[j]? = some c → r'[j]? = some c' → like c c'

/-- The end of a function that writes a list. -/
def endMF (T : Tab) (fn : Func) (B : Nat → Nat → Tk) (rows rows' : List (List MC)) (k' : Int) (s : S) : Prop :=
  match resL T s fn.results.toList with
  | some (p, [.one (.sc (.int .i64 n))]) => match look s.st 0 with
    | some (.arr X) => Side p ∧ Side (n = k') ∧ Side (X = labR true B 0 rows') ∧ Side (likeR rows rows')
    | _ => False
  | _ => False
def endME (T : Tab) (fn : Func) (B : Nat → Nat → Tk) (rows rows' : List (List MC)) (k' : Int) : Exit → S → Prop
  | .normal, s => endMF T fn B rows rows' k' s
  | .ret, s => endMF T fn B rows rows' k' s
  | _, _ => False

theorem like_lab {B : Tk} {c c' : MC} {x : Nat} (h : like c c') : inC x (labc true B c) ↔ inC x (labc true B c') := by
  cases c <;> cases c' <;> first | exact h.elim | exact Iff.rfl

theorem one_res {fn : Func} {s : S} {a : Act} {w' w0 : World} {wr : Wr} {A : Nat → Prop} {L : Lay} {F : FF} (hT : TOk P T) (h : Rl w0 wr A L F s a w') {p : Prop} {v : MV} (hres : resL T s fn.results.toList = some (p, [v])) (hp : p) :
    ∃ u, (results fn a.tmps).run P w' = .ok u w' ∧ RV (look s.st) L w' F v u := by
  obtain ⟨us, hus, hlen, hr⟩ := resL_ok hT h hres hp
  obtain ⟨u, hu, hru⟩ := hr 0 v rfl
  have hus1 : us = [u] := by
    cases us with
    | nil => simp at hlen
    | cons x t =>
      obtain rfl : x = u := by simpa using hu
      have : t = [] := List.eq_nil_of_length_eq_zero (by simpa using hlen)
      rw [this]
  subst hus1
  exact ⟨u, by simpa using results_run hus, hru⟩

/-- A CONTRACT of a function that writes a list. -/
theorem TMark.vcL {f : Nat} {fn : Func} {c : Code} {rows rows' : List (List MC)} {k k' : Int} (hs : (Nat → Nat → Tk) → List (Nat × Hint)) (hT : TOk P T) (hm : P.follows .mixedOrders = true) (hf : P.funcs[f]? = some fn) (hn : (fn.name == "runtime.NumGoroutine") = false) (hb : fn.body = some c) (hl : Nat.ble 2 fn.ntmps = true) (hall : AllF rows) (hall' : AllF rows')
    (h : ∀ B, Apart B → fS ⟨fn.ntmps, 1, [(0, .one (.ref 0 0 rows.length)), (1, .one (.sc (.int .i64 k)))], [(0, .arr (labR true B 0 rows))]⟩ fun s => Mg.vc 1 P T c (hs B) s (endME T fn B rows rows' k')) : TMark P f (.one (.fz rows)) k (.one (.fz rows')) k' := by
  refine ⟨⟨fn, hf, hn, by rw [hb]; rfl⟩, ?_⟩
  intro w v B0 hrt hap hgt
  obtain ⟨hvu, htr⟩ : v = (B0 0 0).u ∧ TR w (.fz rows) v (B0 0 0).B := hrt
  subst hvu
  -- the tree, opened
  have hopen : ∃ (L : Lay) (B : Nat → Nat → Tk), Apart B ∧ Rel w ⟨(B0 0 0).B, 1, L, fun _ => False⟩ (fun _ => False) ⟨fn.ntmps, 1, [(0, .one (.ref 0 0 rows.length)), (1, .one (.sc (.int .i64 k)))], [(0, .arr (labR true B 0 rows))]⟩ (tmps0 fn.ntmps #[(B0 0 0).u, .int .i64 k]) w ∧
      ((rows = [] ∧ (∃ a, (B0 0 0).u = .slice a 0 0) ∧ ∀ b, ¬ (B0 0 0).B b) ∨ ∃ b s cap, (B0 0 0).u = .slice (some ⟨b, 0, none⟩) rows.length cap ∧ rows.length ≤ cap ∧ rows ≠ [] ∧ (∀ j, j < cap * s → (w.cell? ⟨b, j, none⟩).isSome = true) ∧ b < w.heap.size ∧ L 0 = some (b, s) ∧
        ∀ x, (B0 0 0).B x ↔ x = b ∨ ∃ i j r c, rows[i]? = some r ∧ r[j]? = some c ∧ inC x (labc true (B i j) c)) := by
    generalize (B0 0 0).u = u at *
    generalize (B0 0 0).B = N at *
    have htm : ∀ t v', look [(0, MV.one (.ref 0 0 rows.length)), (1, .one (.sc (.int .i64 k)))] t = some v' → (t = 0 ∧ v' = .one (.ref 0 0 rows.length)) ∨ (t = 1 ∧ v' = .one (.sc (.int .i64 k))) := fun t v' ht => by
      simp only [look_cons, look_nil] at ht
      split at ht
      · rename_i e; exact .inl ⟨e, (Option.some.inj ht).symm⟩
      · split at ht
        · rename_i e; exact .inr ⟨e, (Option.some.inj ht).symm⟩
        · cases ht
    have hst0 : ∀ id o X, look [(0, Ob.arr X)] id = some o → id = 0 ∧ o = .arr X := fun id o X ho => by
      simp only [look_cons, look_nil] at ho
      split at ho
      · rename_i e; exact ⟨e, (Option.some.inj ho).symm⟩
      · cases ho
    have e0 : (tmps0 fn.ntmps #[u, .int .i64 k]).tmps.getD 0 undef = u := tmps0_get rfl
    have e1 : (tmps0 fn.ntmps #[u, .int .i64 k]).tmps.getD 1 undef = .int .i64 k := tmps0_get rfl
    have hsz : (tmps0 fn.ntmps #[u, .int .i64 k]).tmps.size = fn.ntmps := by have := Nat.le_of_ble_eq_true hl; simp [tmps0]; omega
    generalize hrw : (MC.fz rows) = mc at htr
    cases htr with
    | sc => cases hrw
    | nilz a N hN =>
      obtain rfl := MC.fz.inj hrw
      refine ⟨fun _ => none, fun _ _ => ⟨fun _ => False, undef⟩, fun _ _ _ _ _ h => h.elim, ⟨fun _ => none, ⟨fun _ => False, fun _ => False⟩, rfl, rfl, rfl, Nat.le_refl _, fun _ _ _ => rfl, fun _ _ _ h => h, fun i hi => ⟨rfl, hi⟩, rfl, fun b hb => hb.elim, fun b hb => hb.elim (fun x => x.elim) (fun x => x.elim), ?_, ?_, ?_, hsz, ?_, ?_, ?_, rfl⟩, .inl ⟨rfl, ⟨a, rfl⟩, hN⟩⟩
      · intro id o ho; obtain ⟨rfl, rfl⟩ := hst0 id o _ ho; exact .inl ⟨rfl, rfl⟩
      · intro id b t _ h2; cases h2
      · intro i j b t u _ _ h2; cases h2
      · intro t v' ht
        rcases htm t v' ht with ⟨rfl, rfl⟩ | ⟨rfl, rfl⟩
        · rw [e0]; exact ⟨rfl, fun rows' hr' => by obtain ⟨_, h3⟩ := hst0 _ _ _ hr'; obtain rfl := Ob.arr.inj h3; exact ⟨a, 0, rfl, Nat.le_refl _, .inr ⟨rfl, rfl⟩⟩⟩
        · rw [e1]; exact ⟨rfl, rfl⟩
      · intro id o ho; obtain ⟨rfl, rfl⟩ := hst0 id o _ ho; exact ⟨Nat.zero_lt_one, fun r hr => by cases hr⟩
      · intro t v' ht
        rcases htm t v' ht with ⟨rfl, rfl⟩ | ⟨rfl, rfl⟩
        · exact Nat.zero_lt_one
        · trivial
    | fz rows0 b cap s fv Bs N h0 hfr hs hcap hx hszb hc hr hd hbb hB hin =>
      obtain rfl := MC.fz.inj hrw
      let B : Nat → Nat → Tk := fun i j => ⟨Bs i j, fv i j⟩
      have hsc : ∀ i j r c, rows[i]? = some r → r[j]? = some c → ∀ x, Bs i j x → inC x (labc true (B i j) c) := fun i j r c h1 h2 x hx' => by
        have hf := hall r (List.mem_of_getElem? h1) c (List.mem_of_getElem? h2)
        cases c <;> first | (cases hf; done) | skip
        · have := hr i j r _ h1 h2
          cases this with
          | sc _ _ _ hn => exact absurd hx' (hn x)
        · exact hx'
      have hsub : ∀ x i j, Bs i j x → N x := fun x i j hx' => (hB x).2 (.inr ⟨i, j, hx'⟩)
      refine ⟨fun id => match id with | 0 => some (b, s) | _ + 1 => none, B, fun i j i' j' x h1 h2 => hd i j i' j' x h1 h2, ⟨fun id => match id with | 0 => some (b, s) | _ + 1 => none, ⟨fun x => ∃ i j, Bs i j x, fun _ => False⟩, rfl, rfl, rfl, Nat.le_refl _, fun _ _ _ => rfl, fun _ _ _ h => h, fun i hi => ⟨rfl, hi⟩, rfl, fun x ⟨i, j, hx'⟩ => .inr (.inl (hsub x i j hx')), ?_, ?_, ?_, ?_, hsz, ?_, ?_, ?_, rfl⟩,
        .inr ⟨b, s, cap, rfl, hcap, h0, hx, hszb, rfl, fun x => ⟨fun hx' => ((hB x).1 hx').imp id fun ⟨i, j, hij⟩ => ?_, fun hx' => (hB x).2 (hx'.imp id fun ⟨i, j, r, c, h1, h2, h3⟩ => ⟨i, j, ?_⟩)⟩⟩⟩
      · rintro x (⟨i, j, hx'⟩ | hx')
        · obtain ⟨r, c, h1, h2⟩ := hin i j x hx'
          exact (hr i j r c h1 h2).lt x hx'
        · exact hx'.elim
      · intro id o ho
        obtain ⟨rfl, rfl⟩ := hst0 id o _ ho
        refine .inr ⟨b, s, rfl, hfr, fun r hr' => ?_, fun i r' hi j d hj => ?_⟩
        · obtain ⟨i, hi⟩ := List.getElem?_of_mem hr'
          rw [labR_get] at hi
          obtain ⟨r0, h1, rfl⟩ := Option.map_eq_some_iff.1 hi
          rw [labRow_len]; exact hs r0 (List.mem_of_getElem? h1)
        · rw [labR_get] at hi
          obtain ⟨r0, h1, rfl⟩ := Option.map_eq_some_iff.1 hi
          rw [labRow_get] at hj
          obtain ⟨c0, h2, rfl⟩ := Option.map_eq_some_iff.1 hj
          refine ⟨fv i j, hc i j r0 c0 h1 h2, ?_⟩
          have ht := hr i j r0 c0 h1 h2
          have hf := hall r0 (List.mem_of_getElem? h1) c0 (List.mem_of_getElem? h2)
          rw [Nat.zero_add, Nat.zero_add]
          cases c0 <;> first | (cases hf; done) | skip
          · generalize fv i j = vv at *
            cases ht with
            | sc _ _ h _ => exact ⟨rfl, h⟩
          · exact ⟨rfl, fun x hx' => ⟨.inl ⟨i, j, hx'⟩, fun _ => ⟨⟨i, j, hx'⟩, fun h => h⟩⟩, ht⟩
      · intro id b' t h1 h2
        cases id with
        | succ id => cases h2
        | zero =>
          obtain ⟨rfl, rfl⟩ := Prod.mk.inj (Option.some.inj h2)
          refine ⟨?_, hszb, .inr ((hB b).2 (.inl rfl))⟩
          rintro (⟨i, j, hx'⟩ | hx')
          · exact hbb i j hx'
          · exact hx'
      · intro i j b' t u' _ _ h1 h2
        cases i <;> cases j <;> first | rfl | (cases h1; done) | (cases h2; done)
      · intro t v' ht
        rcases htm t v' ht with ⟨rfl, rfl⟩ | ⟨rfl, rfl⟩
        · rw [e0]
          refine ⟨rfl, fun rows' hr' => ?_⟩
          obtain ⟨_, h3⟩ := hst0 _ _ _ hr'
          obtain rfl := Ob.arr.inj h3
          refine ⟨_, cap, rfl, by rw [labR_len]; omega, .inl ⟨b, s, rfl, by rw [Nat.zero_mul], hcap, fun e => h0 (List.eq_nil_of_length_eq_zero (by rw [← labR_len true B rows 0, e]; rfl)), fun j hj => hx j (by simpa using hj)⟩⟩
        · rw [e1]; exact ⟨rfl, rfl⟩
      · intro id o ho
        obtain ⟨rfl, rfl⟩ := hst0 id o _ ho
        refine ⟨Nat.zero_lt_one, fun r hr' c' hc' => ?_⟩
        obtain ⟨i, hi⟩ := List.getElem?_of_mem hr'
        rw [labR_get] at hi
        obtain ⟨r0, h1, rfl⟩ := Option.map_eq_some_iff.1 hi
        obtain ⟨j, hj⟩ := List.getElem?_of_mem hc'
        rw [labRow_get] at hj
        obtain ⟨c0, h2, rfl⟩ := Option.map_eq_some_iff.1 hj
        have hf := hall r0 (List.mem_of_getElem? h1) c0 (List.mem_of_getElem? h2)
        cases c0 <;> first | (cases hf; done) | trivial
      · intro t v' ht
        rcases htm t v' ht with ⟨rfl, rfl⟩ | ⟨rfl, rfl⟩
        · exact Nat.zero_lt_one
        · trivial
      · obtain ⟨r, c, h1, h2⟩ := hin i j x hij
        exact ⟨i, j, r, c, h1, h2, hsc i j r c h1 h2 x hij⟩
      · have hf := hall r (List.mem_of_getElem? h1) c (List.mem_of_getElem? h2)
        cases c <;> first | (cases hf; done) | exact h3.elim | exact h3
  obtain ⟨L, B, hapB, hrel, hset⟩ := hopen
  have h := h B hapB
  rw [fS_eq] at h
  have hN : (fun b => inV b (lab true B0 (.one (.fz rows)))) = (B0 0 0).B := rfl
  rw [hN] at hgt ⊢
  refine calls_of_wp hf hb (wp_mono (vc_ok hT hm _ _ _ h w ⟨(B0 0 0).B, 1, L, fun _ => False⟩ (fun _ => False) _ w ⟨rfl, hgt, fun _ h => h⟩ hrel) fun e a w' ⟨s, ⟨L1, F1, hr⟩, he⟩ => ?_)
  have key : endMF T fn B rows rows' k' s → a.defers = [] ∧ ∃ v, (results fn a.tmps).run P w' = .ok v w' ∧ Ending.returned v = .returned (.int .i64 k') ∧ MkPost w w' (B0 0 0).B ∧ RTV w' (lab true B0 (.one (.fz rows'))) (B0 0 0).u := fun he => by
    unfold endMF at he
    split at he
    · rename_i p n hres
      split at he
      · rename_i X hX
        obtain ⟨⟨hp⟩, ⟨rfl⟩, ⟨rfl⟩, ⟨hlk⟩⟩ := he
        obtain ⟨u, hu, hru⟩ := one_res hT hr hres hp
        obtain ⟨rfl, _⟩ : u = .int .i64 n ∧ _ := hru
        refine ⟨hr.df, _, hu, rfl, ⟨hr.os, hr.tape, hr.output, hr.size, hr.keep, hr.kc⟩, rfl, ?_⟩
        show TR w' (.fz rows') (B0 0 0).u (B0 0 0).B
        have hpin : L1 0 = L 0 := (hr.pin 0 Nat.zero_lt_one).1
        have hv : RC (look s.st) L1 w' F1 (.ref 0 0 rows'.length) (B0 0 0).u := by
          refine ⟨htr.one, fun Y hY => ?_⟩
          rw [hX] at hY
          obtain rfl := Ob.arr.inj (Option.some.inj hY)
          rw [labR_len]
          rcases hset with ⟨rfl, ⟨a0, hu0⟩, _⟩ | ⟨b, st, cap, hu0, hcap, hne, hcs, hlt, hL0, _⟩
          · have hl0 : rows' = [] := List.eq_nil_of_length_eq_zero (by rw [← hlk.1]; rfl)
            subst hl0
            exact ⟨a0, 0, hu0, Nat.le_refl _, .inr ⟨rfl, rfl⟩⟩
          · refine ⟨_, cap, by rw [hu0, hlk.1], by omega, .inl ⟨b, st, by rw [hpin]; exact hL0, by rw [Nat.zero_mul], by rw [← hlk.1]; exact hcap, fun e => hne (List.eq_nil_of_length_eq_zero ?_), fun j hj => hr.kc b j hlt (hcs j (by simpa using hj))⟩⟩
            have := congrArg List.length e
            rw [labR_len] at this
            rw [hlk.1]; simpa using this
        obtain ⟨N, hN1, _, hN2⟩ := tree_of hr hv hX rfl hapB hall'
        have : N = (B0 0 0).B := by
          funext x
          refine propext ?_
          rcases hset with ⟨rfl, _, hno⟩ | ⟨b, st, cap, hu0, hcap, hne, hcs, hlt, hL0, hiff⟩
          · have hl0 : rows' = [] := List.eq_nil_of_length_eq_zero (by rw [← hlk.1]; rfl)
            subst hl0
            rcases hN2 with ⟨_, h2⟩ | ⟨b2, s2, h2, h3⟩
            · exact ⟨fun h => absurd h (h2 x), fun h => absurd h (hno x)⟩
            · exfalso
              rcases hr.ob 0 _ hX with ⟨_, hnone⟩ | ⟨b3, s3, h4, h5, h6, h7⟩
              · rw [h2] at hnone; cases hnone
              · have h8 : ∀ {v : Value} {N : Bk}, TR w' (.fz []) v N → ∀ b, ¬ N b := fun {v N} h => by
                  cases h with
                  | nilz _ _ h => exact h
                  | fz _ _ _ _ _ _ _ h0 => exact absurd rfl h0
                exact h8 hN1 b2 ((h3 b2).2 (.inl rfl))
          · rcases hN2 with ⟨h2, _⟩ | ⟨b2, s2, h2, h3⟩
            · exact absurd (List.eq_nil_of_length_eq_zero (by rw [hlk.1, h2]; rfl)) hne
            · rw [hpin, hL0] at h2
              obtain ⟨rfl, rfl⟩ := Prod.mk.inj (Option.some.inj h2)
              rw [h3, hiff]
              refine or_congr Iff.rfl ⟨fun ⟨i, j, r, c, g1, g2, g3⟩ => ?_, fun ⟨i, j, r, c, g1, g2, g3⟩ => ?_⟩
              · have hi : i < rows.length := by rw [hlk.1]; exact (List.getElem?_eq_some_iff.1 g1).1
                obtain ⟨hl1, hl2⟩ := hlk.2 i rows[i] r (List.getElem?_eq_getElem hi) g1
                have hj : j < rows[i].length := by rw [hl1]; exact (List.getElem?_eq_some_iff.1 g2).1
                exact ⟨i, j, _, _, List.getElem?_eq_getElem hi, List.getElem?_eq_getElem hj, (like_lab (hl2 j _ c (List.getElem?_eq_getElem hj) g2)).2 g3⟩
              · have hi : i < rows'.length := by rw [← hlk.1]; exact (List.getElem?_eq_some_iff.1 g1).1
                obtain ⟨hl1, hl2⟩ := hlk.2 i r rows'[i] g1 (List.getElem?_eq_getElem hi)
                have hj : j < rows'[i].length := by rw [← hl1]; exact (List.getElem?_eq_some_iff.1 g2).1
                exact ⟨i, j, _, _, List.getElem?_eq_getElem hi, List.getElem?_eq_getElem hj, (like_lab (hl2 j c _ g2 (List.getElem?_eq_getElem hj))).1 g3⟩
        rw [← this]; exact hN1
      · exact he.elim
    · exact he.elim
  cases e <;> first | exact key he | exact he.elim

/-- The end of a function that writes what hangs on a struct. -/
def likeS (c c' : MC) : Prop := match c, c' with
  | .sc u, .sc v => u = v
  | .fz _, .fz _ => True
  | _, _ => False
def likeSL : List MC → List MC → Prop
  | [], [] => True
  | c :: cs, d :: ds => likeS c d ∧ likeSL cs ds
  | _, _ => False
theorem likeSL_get : ∀ {cs ds : List MC}, likeSL cs ds → cs.length = ds.length ∧ ∀ (j : Nat) (d : MC), ds[j]? = some d → ∃ c, cs[j]? = some c ∧ likeS c d
  | [], [], _ => ⟨rfl, fun j d hj => by simp at hj⟩
  | c :: cs, d :: ds, h => by
    obtain ⟨h1, h2⟩ := likeSL_get h.2
    refine ⟨by simp [h1], fun j x hj => ?_⟩
    cases j with
    | zero => obtain rfl := Option.some.inj hj; exact ⟨c, rfl, h.1⟩
    | succ j => exact h2 j x hj
  | [], _ :: _, h => h.elim
  | _ :: _, [], h => h.elim
def endSF (T : Tab) (fn : Func) (B : Nat → Tk) (cs cs' : List MC) (k' : Int) (s : S) : Prop :=
  match resL T s fn.results.toList with
  | some (p, [.one (.sc (.int .i64 n))]) => match look s.env 0 with
    | some (.agg X) => Side p ∧ Side (n = k') ∧ Side (X = labRow true B 0 cs') ∧ Side (likeSL cs cs')
    | _ => False
  | _ => False
def endSE (T : Tab) (fn : Func) (B : Nat → Tk) (cs cs' : List MC) (k' : Int) : Exit → S → Prop
  | .normal, s => endSF T fn B cs cs' k' s
  | .ret, s => endSF T fn B cs cs' k' s
  | _, _ => False

/-- A CONTRACT of a function that writes what hangs on a struct. -/
theorem TMark.vcS {f : Nat} {fn : Func} {c : Code} {cs cs' : List MC} {k k' : Int} (hs : (Nat → Tk) → List (Nat × Hint)) (hT : TOk P T) (hm : P.follows .mixedOrders = true) (hf : P.funcs[f]? = some fn) (hn : (fn.name == "runtime.NumGoroutine") = false) (hb : fn.body = some c) (hl : Nat.ble 2 fn.ntmps = true) (hall : cs.all MC.frz = true)
    (h : ∀ B : Nat → Tk, (∀ j j' x, (B j).B x → (B j').B x → j = j') → fS ⟨fn.ntmps, 0, [(0, .agg (labRow true B 0 cs)), (1, .one (.sc (.int .i64 k)))], []⟩ fun s => Mg.vc 0 P T c (hs B) s (endSE T fn B cs cs' k')) : TMark P f (.agg cs) k (.agg cs') k' := by
  refine ⟨⟨fn, hf, hn, by rw [hb]; rfl⟩, ?_⟩
  intro w v B0 hrt hap hgt
  let N : Bk := fun b => inV b (lab true B0 (.agg cs))
  obtain ⟨arr, rfl, hsz1, hrd⟩ : ∃ arr : Array Value, v = .agg arr ∧ arr.size = (labRow true (B0 0) 0 cs).length ∧ ∀ (j : Nat) (c : MC), (labRow true (B0 0) 0 cs)[j]? = some c → ∃ u : Value, arr[j]? = some u ∧ RT w c u := hrt
  have htm : ∀ t v', look [(0, MV.agg (labRow true (B0 0) 0 cs)), (1, .one (.sc (.int .i64 k)))] t = some v' → (t = 0 ∧ v' = .agg (labRow true (B0 0) 0 cs)) ∨ (t = 1 ∧ v' = .one (.sc (.int .i64 k))) := fun t v' ht => by
    simp only [look_cons, look_nil] at ht
    split at ht
    · rename_i e; exact .inl ⟨e, (Option.some.inj ht).symm⟩
    · split at ht
      · rename_i e; exact .inr ⟨e, (Option.some.inj ht).symm⟩
      · cases ht
  have e0 : (tmps0 fn.ntmps #[.agg arr, .int .i64 k]).tmps.getD 0 undef = .agg arr := tmps0_get rfl
  have e1 : (tmps0 fn.ntmps #[.agg arr, .int .i64 k]).tmps.getD 1 undef = .int .i64 k := tmps0_get rfl
  have hsz : (tmps0 fn.ntmps #[.agg arr, .int .i64 k]).tmps.size = fn.ntmps := by have := Nat.le_of_ble_eq_true hl; simp [tmps0]; omega
  have hlt : ∀ b, N b → b < w.heap.size := by
    rintro b ⟨c, hc, hb⟩
    obtain ⟨j, hj⟩ := List.getElem?_of_mem hc
    obtain ⟨u, _, hr⟩ := hrd j c hj
    rw [labRow_get] at hj
    obtain ⟨d, hd, rfl⟩ := Option.map_eq_some_iff.1 hj
    have hf := List.all_eq_true.1 hall d (List.mem_of_getElem? hd)
    cases d <;> first | (cases hf; done) | exact hb.elim | exact hr.2.lt b hb
  have hrel : Rl w ⟨N, 0, fun _ => none, fun _ => False⟩ (fun _ => False) (fun _ => none) ⟨N, fun _ => False⟩ ⟨fn.ntmps, 0, [(0, .agg (labRow true (B0 0) 0 cs)), (1, .one (.sc (.int .i64 k)))], []⟩ (tmps0 fn.ntmps #[.agg arr, .int .i64 k]) w := by
    refine ⟨rfl, rfl, rfl, Nat.le_refl _, fun _ _ _ => rfl, fun _ _ _ h => h, fun i hi => absurd hi (Nat.not_lt_zero i), rfl, fun b hb => .inr (.inl hb), fun b hb => hb.elim (hlt b) (fun h => h.elim), fun id o ho => by simp at ho, fun id b t h1 => by simp at h1, fun i j b t u h1 => by simp at h1, hsz, ?_, fun id o ho => by simp at ho, ?_, rfl⟩
    · intro t v' ht
      rcases htm t v' ht with ⟨rfl, rfl⟩ | ⟨rfl, rfl⟩
      · rw [e0]
        refine ⟨arr, rfl, hsz1, fun j c hj => ?_⟩
        obtain ⟨u, hu, hr⟩ := hrd j c hj
        exact ⟨u, hu, hr.rc fun b hb => ⟨⟨c, List.mem_of_getElem? hj, hb⟩, fun h => h⟩⟩
      · rw [e1]; exact ⟨rfl, rfl⟩
    · intro t v' ht
      rcases htm t v' ht with ⟨rfl, rfl⟩ | ⟨rfl, rfl⟩
      · intro c hc
        obtain ⟨j, hj⟩ := List.getElem?_of_mem hc
        obtain ⟨u, _, hr⟩ := hrd j c hj
        exact hr.bd
      · trivial
  have h := h (B0 0) (fun j j' x h1 h2 => (hap 0 j 0 j' x h1 h2).2)
  rw [fS_eq] at h
  refine calls_of_wp hf hb (wp_mono (vc_ok hT hm _ _ _ h w ⟨N, 0, fun _ => none, fun _ => False⟩ (fun _ => False) _ w ⟨rfl, hgt, fun _ h => h⟩ ⟨_, _, hrel⟩) fun e a w' ⟨s, ⟨L1, F1, hr⟩, he⟩ => ?_)
  have key : endSF T fn (B0 0) cs cs' k' s → a.defers = [] ∧ ∃ v, (results fn a.tmps).run P w' = .ok v w' ∧ Ending.returned v = .returned (.int .i64 k') ∧ MkPost w w' N ∧ RTV w' (lab true B0 (.agg cs')) (.agg arr) := fun he => by
    unfold endSF at he
    split at he
    · rename_i p n hres
      split at he
      · rename_i X hX
        obtain ⟨⟨hp⟩, ⟨rfl⟩, ⟨rfl⟩, ⟨hlk⟩⟩ := he
        obtain ⟨u, hu, hru⟩ := one_res hT hr hres hp
        obtain ⟨rfl, _⟩ : u = .int .i64 n ∧ _ := hru
        obtain ⟨arr', h1, h2, h3⟩ : ∃ arr' : Array Value, a.tmps.getD 0 undef = .agg arr' ∧ Cells (look s.st) L1 w' F1 (labRow true (B0 0) 0 cs') arr' := hr.env 0 _ hX
        obtain ⟨hl1, hl2⟩ := likeSL_get hlk
        refine ⟨hr.df, _, hu, rfl, ⟨hr.os, hr.tape, hr.output, hr.size, hr.keep, hr.kc⟩, arr, rfl, by rw [hsz1, labRow_len, labRow_len, hl1], fun j c' hj => ?_⟩
        obtain ⟨u', _, hru'⟩ := h3 j c' hj
        rw [labRow_get] at hj
        obtain ⟨d', hd', rfl⟩ := Option.map_eq_some_iff.1 hj
        obtain ⟨d, hd, hdd⟩ := hl2 j d' hd'
        obtain ⟨u0, hu0, hr0⟩ := hrd j _ (by rw [labRow_get, hd]; rfl)
        refine ⟨u0, hu0, ?_⟩
        cases d <;> cases d' <;> first | exact hdd.elim | skip
        · obtain rfl : _ = _ := hdd
          exact hr0
        · have g1 := hru'.2.2
          rw [hru'.1] at g1
          exact ⟨hr0.1, by rw [hr0.1]; exact g1⟩
      · exact he.elim
    · exact he.elim
  cases e <;> first | exact key he | exact he.elim

end Mg

/- The abstract state logic, part 41: states said anew; rows that are written one cell at a time. No condition. -/
namespace Mg
open Go Go.RowKit
set_option linter.unusedVariables false

variable {P : Program} {T : Tab}

/-- A state, said anew. -/
theorem W.sub {k : Nat} {c : Code} {s : S} {Q : Exit → S → Prop} (s' : S) (bl : List (Nat × Nat)) (hsub : subC k bl s' s) (h : W k P c s' Q) : W k P c s Q :=
  W.ren (subC_ok hsub) (subC_pin hsub) h

section
variable {X : List (List MC)} {i : Nat} {r r' : List MC}
theorem setGet (h : i < X.length) : (X.set i r).getD (0 + i) [] = r := by
  rw [Nat.zero_add, List.getD_eq_getElem?_getD, List.getElem?_set_self h]; rfl
/-- A store into the row that is being written. -/
theorem sSetN {k : Nat} {off : Nat} {cs : List MC} (h : i < X.length) (hk : k = i) (hr : putAt r off cs = r') : Side (X.set i r' = (X.set i r).set (0 + k) (putAt ((X.set i r).getD (0 + k) []) off cs)) := by
  subst hk
  rw [setGet h, Nat.zero_add, List.set_set, hr]; exact ⟨rfl⟩
theorem sSet0 (h : X[i]? = some r) : Side (X.set i r = X) := ⟨by
  obtain ⟨hl, rfl⟩ := List.getElem?_eq_some_iff.1 h
  exact List.set_getElem_self hl⟩
theorem sIxN {k : Int} {n m : Nat} (h : i < X.length) (hk : k = i) (hn : n = X.length) (hl : r.length = m) : Side ((0 ≤ k ∧ k < n) ∧ 0 + k.toNat < (X.set i r).length ∧ ((X.set i r).getD (0 + k.toNat) []).length = m) := by
  subst hk
  rw [Int.toNat_natCast, setGet h, List.length_set]
  exact ⟨⟨by omega, by omega⟩, by omega, hl⟩
theorem sStN {k off n z : Nat} (h : i < X.length) (hk : k = i) (hb : Nat.ble (off + n) r.length = true) (hz : n = z) : Side ((0 + k < (X.set i r).length ∧ off + n ≤ ((X.set i r).getD (0 + k) []).length) ∧ n = z) := by
  subst hk
  rw [setGet h, List.length_set]
  exact ⟨⟨by omega, Nat.le_of_ble_eq_true hb⟩, hz⟩
theorem sLdN {k off n : Nat} {v v' : MV} {f : List MC → MV} (h : i < X.length) (hk : k = i) (hb : n ≤ (r.drop off).length) (hv : f ((r.drop off).take n) = v') (e : v = f (((X.set i r).getD (0 + k) []).drop off |>.take n)) : Side (n ≤ (List.drop off ((X.set i r).getD (0 + k) [])).length ∧ v = v') := by
  subst hk
  rw [setGet h] at e ⊢
  exact ⟨hb, e.trans hv⟩
theorem sFlatN (hX : ∀ r ∈ X, ∀ c ∈ r, c.flat = true) (hr : r.all MC.flat = true) : Side (∀ q ∈ X.set i r, ∀ c ∈ q, c.flat = true) := ⟨fun q hq c hc => by
  rcases List.mem_or_eq_of_mem_set hq with hq | rfl
  · exact hX q hq c hc
  · exact List.all_eq_true.1 hr c hc⟩
end

theorem lab_flat {o : Bool} {B : Nat → Nat → Tk} {rows : List (List MC)} (h : AllF rows) : ∀ r ∈ labR o B 0 rows, ∀ c ∈ r, c.flat = true := fun r hr c hc => by
  obtain ⟨i, hi⟩ := List.getElem?_of_mem hr
  rw [labR_get] at hi
  obtain ⟨r0, h1, rfl⟩ := Option.map_eq_some_iff.1 hi
  obtain ⟨j, hj⟩ := List.getElem?_of_mem hc
  rw [labRow_get] at hj
  obtain ⟨c0, h2, rfl⟩ := Option.map_eq_some_iff.1 hj
  have := h r0 (List.mem_of_getElem? h1) c0 (List.mem_of_getElem? h2)
  cases c0 <;> first | (cases this; done) | rfl
theorem labR_set {o : Bool} {B : Nat → Nat → Tk} : ∀ (rows : List (List MC)) (k i : Nat) (r : List MC), (labR o B k rows).set i (labRow o (B (k + i)) 0 r) = labR o B k (rows.set i r)
  | [], k, i, r => rfl
  | x :: rows, k, 0, r => rfl
  | x :: rows, k, i + 1, r => by
    have := labR_set (o := o) (B := B) rows (k + 1) i r
    simp only [labR, List.set_cons_succ]
    rw [← this, show k + 1 + i = k + (i + 1) by omega]

/- ------------------------------------------------ calls that write the row that is being written -/
theorem apart_one {c : MC} : Apart (tokOf (.one c)) := fun i j i' j' x h1 h2 => by
  have key : ∀ i j, (tokOf (.one c) i j).B x → i = 0 ∧ j = 0 := fun i j h => by
    cases i with
    | succ i => exact h.elim
    | zero =>
      cases j with
      | zero => exact ⟨rfl, rfl⟩
      | succ j => exact (by simp [tokOf, cellsV, tokC] at h : False).elim
  have h3 := key i j h1; have h4 := key i' j' h2
  exact ⟨h3.1.trans h4.1.symm, h3.2.trans h4.2.symm⟩

theorem upR_set {N : Bk} {ys : List MC} {X : List (List MC)} {i : Nat} {r r' : List MC} (h : i < X.length) (hX : ∀ i' q, i' ≠ i → X[i']? = some q → ∀ c ∈ q, UpC N ys c c) (hr : UpL N ys r r') :
    UpR N ys (X.set i r) ((X.set i r).set i r') := by
  rw [List.set_set]
  refine ⟨by simp, fun i' q hq => ?_⟩
  obtain ⟨h1, h2⟩ := UpL.get hr
  by_cases e : i' = i
  · subst e
    rw [List.getElem?_set_self h] at hq
    obtain rfl := Option.some.inj hq
    exact ⟨r, List.getElem?_set_self h, h1, h2⟩
  · rw [List.getElem?_set_ne (Ne.symm e)] at hq ⊢
    exact ⟨q, hq, rfl, fun j d hj => ⟨d, hj, hX i' q e hq d (List.mem_of_getElem? hj)⟩⟩
theorem upC_lab {ys : List MC} {B : Nat → Nat → Tk} (hB : Apart B) {rows : List (List MC)} (hall : AllF rows) {i j i' : Nat} {q : List MC} (hne : i' ≠ i) (hq : (labR true B 0 rows)[i']? = some q) : ∀ c ∈ q, UpC (B i j).B ys c c := fun c hc => by
  rw [labR_get, Nat.zero_add] at hq
  obtain ⟨r0, h1, rfl⟩ := Option.map_eq_some_iff.1 hq
  obtain ⟨j', hj⟩ := List.getElem?_of_mem hc
  rw [labRow_get, Nat.zero_add] at hj
  obtain ⟨c0, h2, rfl⟩ := Option.map_eq_some_iff.1 hj
  have := hall r0 (List.mem_of_getElem? h1) c0 (List.mem_of_getElem? h2)
  cases c0 <;> first | (cases this; done) | skip
  · exact .sc _
  · exact .tr _ _ _ _ fun x h3 h4 => hne (hB i' j' i j x h3 h4).1
/-- The objects behind a call that writes cell j of row i. -/
theorem sUpN {B : Nat → Nat → Tk} {ys : List MC} {rows : List (List MC)} {i j k : Nat} {N : Bk} {r r' : List MC} {c : MC} (hB : Apart B) (hN : N = (B i j).B) (hall : AllF rows) (h : i < rows.length) (hk : k = i) (hc : r.set j c = r') (hr : UpL N ys r r') :
    Side (UpR N ys ((labR true B 0 rows).set i r) (((labR true B 0 rows).set i r).set k ((((labR true B 0 rows).set i r).getD k []).set j c))) := by
  subst hN hk hc
  have hl : k < (labR true B 0 rows).length := by rw [labR_len]; exact h
  have e : ((labR true B 0 rows).set k r).getD k [] = r := by have := setGet (r := r) hl; rwa [Nat.zero_add] at this
  rw [e]
  exact ⟨upR_set hl (fun i' q hne hq => upC_lab hB hall hne hq) hr⟩
theorem sSetM {X : List (List MC)} {i j k : Nat} {r r' : List MC} {c : MC} (h : i < X.length) (hk : k = i) (hr : r.set j c = r') : Side (X.set i r' = (X.set i r).set k (((X.set i r).getD k []).set j c)) := by
  subst hk hr
  have e : (X.set k r).getD k [] = r := by have := setGet (r := r) h; rwa [Nat.zero_add] at this
  rw [e, List.set_set]; exact ⟨rfl⟩
end Mg

/- The abstract state logic, part 27: a nil slice as an empty list of its own. No condition. -/
namespace Mg
open Go Go.RowKit
set_option linter.unusedVariables false

variable {P : Program} {T : Tab}

def S.vslot (s : S) (t : Nat) : Option S := match look s.env t with
  | some (.one .nil) => some { (s.app [] s.st) with env := (t, .one (.ref s.n 0 0)) :: s.env }
  | _ => none
def S.vbox (s : S) (b j : Nat) : Option S := match look s.st b with
  | some (.box cs) => match cs[j]? with
    | some .nil => some (s.app [] (upd s.st b (.box (cs.set j (.ref s.n 0 0)))))
    | _ => none
  | _ => none

theorem nil_ref {st : List (Nat × Ob)} {n : Nat} {L : Lay} {w : World} {F : FF} {v : Value} (h : ∃ a, v = .slice a 0 0) : RC (look ((n, .arr []) :: st)) L w F (.ref n 0 0) v := by
  obtain ⟨a, rfl⟩ := h
  refine ⟨rfl, fun rows hr => ⟨a, 0, rfl, by simp, .inr ⟨rfl, rfl⟩⟩⟩

theorem Rl.vslot {w0 : World} {wr : Wr} {A : Nat → Prop} {L : Lay} {F : FF} {s : S} {a : Act} {w : World} (h : Rl w0 wr A L F s a w) {t : Nat} {s' : S} (hs : s.vslot t = some s') : ∃ L', Rl w0 wr A L' F s' a w := by
  unfold S.vslot at hs
  split at hs
  case h_2 => cases hs
  rename_i he
  obtain rfl := Option.some.inj hs
  obtain ⟨L', h1, hn, hLo, hi⟩ := h.virt
  refine ⟨L', ⟨h1.os, h1.tape, h1.output, h1.size, h1.keep, h1.kc, h1.pin, h1.fa, h1.fn, h1.fsz, h1.ob, h1.own, h1.inj, h1.sz, fun t' v hv => ?_, h1.bst, fun t' v hv => ?_, h1.df⟩⟩
  · rw [show look ({ (s.app [] s.st) with env := (t, .one (.ref s.n 0 0)) :: s.env } : S).env t' = look ((t, .one (.ref s.n 0 0)) :: s.env) t' from rfl, look_cons] at hv
    by_cases e : t' = t
    · rw [if_pos e] at hv
      obtain rfl := Option.some.inj hv
      subst e
      have : RC (look s.st) L w F .nil (a.tmps.getD t' undef) := h.env t' _ he
      exact nil_ref (F := F) this
    · rw [if_neg e] at hv
      exact h1.env t' v hv
  · rw [show look ({ (s.app [] s.st) with env := (t, .one (.ref s.n 0 0)) :: s.env } : S).env t' = look ((t, .one (.ref s.n 0 0)) :: s.env) t' from rfl, look_cons] at hv
    by_cases e : t' = t
    · rw [if_pos e] at hv
      obtain rfl := Option.some.inj hv
      exact Nat.lt_succ_self s.n
    · rw [if_neg e] at hv
      exact h1.ben t' v hv

theorem Rl.vbox {w0 : World} {wr : Wr} {A : Nat → Prop} {L : Lay} {F : FF} {s : S} {a : Act} {w : World} (h : Rl w0 wr A L F s a w) {b j : Nat} {s' : S} (hs : s.vbox b j = some s') : ∃ L', Rl w0 wr A L' F s' a w := by
  unfold S.vbox at hs
  split at hs
  case h_2 => cases hs
  rename_i cs hb
  split at hs
  case h_2 => cases hs
  rename_i hj
  obtain rfl := Option.some.inj hs
  obtain ⟨L', h1, hn, hLo, hi⟩ := h.virt
  have hbn : b ≠ s.n := Nat.ne_of_lt (h.bst b _ hb).1
  have hb1 : look (s.app [] s.st).st b = some (.box cs) := by simp only [S.app, look_cons, if_neg hbn]; exact hb
  have hup : (s.app [] (upd s.st b (.box (cs.set j (.ref s.n 0 0))))).st = upd (s.app [] s.st).st b (.box (cs.set j (.ref s.n 0 0))) := by
    simp only [S.app, upd_cons, if_neg hbn]
  have hrc : ∀ x u, RC (look (s.app [] s.st).st) L' w F x u → RC (look (s.app [] (upd s.st b (.box (cs.set j (.ref s.n 0 0))))).st) L' w F x u := fun x u hr => by
    rw [hup]
    exact RC.set (o := .box cs) (o' := .box (cs.set j (.ref s.n 0 0))) hb1 trivial (fun _ _ => rfl) (fun _ _ _ _ _ _ h => h) hr
  have hlk : ∀ i o, look (s.app [] (upd s.st b (.box (cs.set j (.ref s.n 0 0))))).st i = some o → (i = b ∧ o = .box (cs.set j (.ref s.n 0 0))) ∨ (i ≠ b ∧ look (s.app [] s.st).st i = some o) := fun i o ho => by
    rw [hup, look_upd] at ho
    by_cases e : i = b
    · rw [if_pos ⟨e, by rw [hb1]; rfl⟩] at ho; exact .inl ⟨e, (Option.some.inj ho).symm⟩
    · rw [if_neg (fun hh => e hh.1)] at ho; exact .inr ⟨e, ho⟩
  have hsm : ∀ i, (look (s.app [] (upd s.st b (.box (cs.set j (.ref s.n 0 0))))).st i).isSome = true → (look (s.app [] s.st).st i).isSome = true := fun i hi => by
    obtain ⟨o, ho⟩ := Option.isSome_iff_exists.1 hi
    rcases hlk i o ho with ⟨rfl, _⟩ | ⟨_, h2⟩
    · rw [hb1]; rfl
    · rw [h2]; rfl
  refine ⟨L', ⟨h1.os, h1.tape, h1.output, h1.size, h1.keep, h1.kc, h1.pin, h1.fa, h1.fn, h1.fsz, fun i o ho => ?_, fun i k t g1 g2 => h1.own i k t (hsm i g1) g2, fun i k b' t u g1 g2 => h1.inj i k b' t u (hsm i g1) (hsm k g2), h1.sz, fun t v hv => (h1.env t v hv).imp (h1.ben t v hv) (fun x _ u hr => hrc x u hr), fun i o ho => ?_, h1.ben, h1.df⟩⟩
  · rcases hlk i o ho with ⟨rfl, rfl⟩ | ⟨_, h2⟩
    · obtain ⟨bb, t, g1, g2, g3⟩ := h1.ob i _ hb1
      refine ⟨bb, t, g1, g2, fun k x hk => ?_⟩
      rw [List.getElem?_set] at hk
      by_cases e : j = k
      · subst e
        rw [if_pos rfl] at hk
        have hlt : j < cs.length := (List.getElem?_eq_some_iff.1 hj).1
        rw [if_pos hlt] at hk
        obtain rfl := Option.some.inj hk
        obtain ⟨u, hu, hr⟩ := g3 j _ hj
        exact ⟨u, hu, nil_ref hr⟩
      · rw [if_neg e] at hk
        obtain ⟨u, hu, hr⟩ := g3 k x hk
        exact ⟨u, hu, hrc x u hr⟩
    · exact (h1.ob i o h2).imp (h1.bst i o h2).2 rfl (fun _ _ _ => rfl) (fun x _ u hr => hrc x u hr)
  · rcases hlk i o ho with ⟨rfl, rfl⟩ | ⟨_, h2⟩
    · refine ⟨(h1.bst i _ hb1).1, fun x hx => ?_⟩
      rcases List.mem_or_eq_of_mem_set hx with hx | rfl
      · exact (h1.bst i _ hb1).2 x hx
      · exact Nat.lt_succ_self s.n
    · exact h1.bst i o h2

theorem W.vslot {k : Nat} {c : Code} {s s' : S} {Q : Exit → S → Prop} (t : Nat) (hs : s.vslot t = some s') (h : W k P c s' Q) : W k P c s Q := fun w0 wr A a w hk ⟨L, F, hr⟩ => by
  obtain ⟨L', hr'⟩ := hr.vslot hs
  exact h w0 wr A a w hk ⟨L', F, hr'⟩
theorem W.vbox {k : Nat} {c : Code} {s s' : S} {Q : Exit → S → Prop} (b j : Nat) (hs : s.vbox b j = some s') (h : W k P c s' Q) : W k P c s Q := fun w0 wr A a w hk ⟨L, F, hr⟩ => by
  obtain ⟨L', hr'⟩ := hr.vbox hs
  exact h w0 wr A a w hk ⟨L', F, hr'⟩

def S.nfa (s : S) (id : Nat) : Option S := match look s.st id with
  | some (.arr rows) => some (s.set id (.arr (nfR rows)))
  | _ => none
theorem W.nf {P : Program} {k : Nat} {c : Code} {s s' : S} {Q : Exit → S → Prop} (id : Nat) (hs : s.nfa id = some s') (h : W k P c s' Q) : W k P c s Q := fun w0 wr A a w hk ⟨L, F, hr⟩ => by
  unfold S.nfa at hs
  split at hs
  · rename_i rows hlk
    obtain rfl := Option.some.inj hs
    exact h w0 wr A a w hk ⟨L, F, hr.nf hlk⟩
  · cases hs
end Mg

/- The abstract state logic, part 28: lists that grow. No condition. -/
namespace Mg
open Go Go.RowKit
set_option linter.unusedVariables false

section
variable {α : Type}
/-- A list of its own grows. -/
theorem sApp {a : Prop} {c : α → List MC} {xs : List α} {k b : Nat} {rows2 : List (List MC)} (ha : a) (hc : ∀ x, (c x).length = k) (h2 : (rows2.all fun r => r.length == k) = true) (hl : xs.length ≤ 1000000) (hl2 : Nat.ble rows2.length 1000000 = true) (hb : Nat.ble b 1000000 = true) :
    Side (a ∧ (∀ r ∈ xs.map c, r.length = k) ∧ (∀ r ∈ rows2, r.length = k) ∧ ((xs.map c).length + rows2.length) * b ≤ 140737488355328 ∧ (xs.map c).length + rows2.length ≤ 140737488355328) := by
  have h2' := Nat.le_of_ble_eq_true hl2
  have hb' := Nat.le_of_ble_eq_true hb
  refine ⟨ha, fun r hr => by obtain ⟨x, _, rfl⟩ := List.mem_map.1 hr; exact hc x, fun r hr => by simpa using List.all_eq_true.1 h2 r hr, ?_, ?_⟩
  · rw [List.length_map]
    exact Nat.le_trans (Nat.mul_le_mul (Nat.add_le_add hl h2') hb') (by decide)
  · rw [List.length_map]; omega
theorem sAppL {xs : List α} {x : α} {m n : Nat} (hm : m = xs.length) (hn : n = 1) : Side ((xs ++ [x]).length = m + n) := ⟨by simp [hm, hn]⟩
theorem sWr {k n : Int} (h1 : -9223372036854775808 ≤ n) (h2 : n ≤ 9223372036854775807) (h : k = n) : Side (k = IntKind.i64.wrap n) := ⟨by rw [wrapi h1 h2, h]⟩
theorem sAppR {c : α → List MC} {xs : List α} {x : α} {rows2 : List (List MC)} (h : rows2 = [c x]) : Side ((xs ++ [x]).map c = xs.map c ++ rows2) := ⟨by rw [List.map_append, h]; rfl⟩
theorem sMapF {c : α → List MC} {xs : List α} (hc : ∀ x, (c x).all MC.flat = true) : Side (∀ r ∈ xs.map c, ∀ x ∈ r, x.flat = true) :=
  ⟨fun r hr x hx => by obtain ⟨y, _, rfl⟩ := List.mem_map.1 hr; exact List.all_eq_true.1 (hc y) x hx⟩
theorem sFzE {c : α → List MC} {xs : List α} {n : Nat} (hn : n = xs.length) : Side (xs.map c = ((xs.map c).drop 0).take n) := ⟨by rw [List.drop_zero, List.take_of_length_le (by simp [hn])]⟩
theorem sMapZ {c : α → List MC} {xs : List α} (hc : ∀ x, (c x).all MC.frz = true) : Side (AllF (xs.map c) ∧ True) :=
  ⟨fun r hr x hx => by obtain ⟨y, _, rfl⟩ := List.mem_map.1 hr; exact List.all_eq_true.1 (hc y) x hx, trivial⟩
theorem l_all {c : α → List MC} {xs : List α} {n : Nat} (hn : n = xs.length) : ((xs.map c).drop 0).take n = xs.map c := by rw [List.drop_zero, List.take_of_length_le (by simp [hn])]
/-- What is lent for a call. -/
theorem allF {c : α → List MC} {xs : List α} (hc : ∀ x, (c x).all MC.frz = true) : AllF (xs.map c) :=
  fun r hr x hx => by obtain ⟨y, _, rfl⟩ := List.mem_map.1 hr; exact List.all_eq_true.1 (hc y) x hx
theorem lendF {c : α → List MC} {xs : List α} {n : Nat} (hc : ∀ x, (c x).all MC.frz = true) (hn : n = xs.length) : ∀ r ∈ ((xs.map c).drop 0).take n, ∀ x ∈ r, x.frz = true := by
  rw [l_all hn]
  exact fun r hr x hx => by obtain ⟨y, _, rfl⟩ := List.mem_map.1 hr; exact List.all_eq_true.1 (hc y) x hx
theorem sLend {P : Program} {sh : Bool} {f : Nat} {args args' : List MV} {r : MV} {p : Prop} (hp : p) (h : Pure P sh f args' r) (e : args = args') : Side (p ∧ Pure P sh f args r) := ⟨hp, e ▸ h⟩
theorem toA_map {c : α → List MC} {xs : List α} (hc : ∀ x, (c x).map MC.toA = c x) : ((xs.map c).map fun r => r.map MC.toA) = xs.map c := by
  rw [List.map_map]; exact List.map_congr_left fun x _ => hc x
theorem sAppF {c : α → List MC} {xs : List α} {rows2 : List (List MC)} {k b : Nat} (e : rows2 = xs.map c) (hc : ∀ x, (c x).length = k) (hf : ∀ x, (c x).all MC.frz = true) (hl : xs.length ≤ 2000000) (hb : Nat.ble b 1000000 = true) :
    Side ((∀ r ∈ rows2, r.length = k) ∧ rows2.length * b ≤ 140737488355328 ∧ rows2.length ≤ 140737488355328 ∧ AllF rows2 ∧ MV.one (.fz (xs.map c)) = .one (.fz rows2)) := by
  subst e
  have hb' := Nat.le_of_ble_eq_true hb
  refine ⟨fun r hr => by obtain ⟨x, _, rfl⟩ := List.mem_map.1 hr; exact hc x, ?_, ?_, allF hf, rfl⟩
  · rw [List.length_map]
    exact Nat.le_trans (Nat.mul_le_mul hl hb') (by decide)
  · rw [List.length_map]; omega
theorem setMap {c : α → List MC} {xs : List α} {k : Nat} {y : α} {r : List MC} (h : c y = r) : (xs.set k y).map c = (xs.map c).set (0 + k) r := by
  rw [Nat.zero_add, List.map_set, h]
theorem sSet {c : α → List MC} {xs : List α} {k : Nat} {y : α} {r : List MC} (h : c y = r) : Side ((xs.set k y).map c = (xs.map c).set (0 + k) r) := ⟨setMap h⟩
theorem sSetL {xs : List α} {k : Nat} {y : α} {n : Nat} (h : n = xs.length) : Side ((xs.set k y).length = n) := ⟨by rw [List.length_set, h]⟩
variable [Inhabited α]
theorem mapGet {c : α → List MC} {xs : List α} {k : Nat} (h : k < xs.length) : (xs.map c).getD (0 + k) [] = c (xs.getD k default) := by
  rw [Nat.zero_add, List.getD_eq_getElem?_getD, List.getElem?_map, List.getElem?_eq_getElem h, List.getD_eq_getElem?_getD, List.getElem?_eq_getElem h]; rfl
theorem sIxO {c : α → List MC} {xs : List α} {k : Int} {n m : Nat} (h0 : 0 ≤ k) (h : k < xs.length) (hn : n = xs.length) (hc : ∀ x, (c x).length = m) :
    Side ((0 ≤ k ∧ k < n) ∧ 0 + k.toNat < (xs.map c).length ∧ ((xs.map c).getD (0 + k.toNat) []).length = m) :=
  ⟨⟨h0, hn ▸ h⟩, by rw [List.length_map]; omega, by rw [mapGet (by omega)]; exact hc _⟩
theorem sSt {c : α → List MC} {xs : List α} {k off n m z : Nat} (h : k < xs.length) (hc : ∀ x, (c x).length = m) (hb : Nat.ble (off + n) m = true) (hz : n = z) :
    Side ((0 + k < (xs.map c).length ∧ off + n ≤ ((xs.map c).getD (0 + k) []).length) ∧ n = z) :=
  ⟨⟨by rw [List.length_map]; omega, by rw [mapGet h, hc]; exact Nat.le_of_ble_eq_true hb⟩, hz⟩
/-- A whole number that was read. -/
def intOf : List MV → Int
  | [.one (.sc (.int _ n))] => n
  | _ => 0
def asI (l : List MV) : MV := .one (.sc (.int .i64 (intOf l)))
theorem sLdI {c : α → List MC} {xs : List α} {k off : Nat} {n : α → Int} {t : α → List MC} (h : k < xs.length) (hc : ∀ x, (c x).drop off = MC.sc (.int .i64 (n x)) :: t x) :
    Side (0 < (List.drop off ((xs.map c).getD (0 + k) [])).length ∧ MV.one ((List.drop off ((xs.map c).getD (0 + k) [])).getD 0 .dead) = asI [MV.one ((List.drop off ((xs.map c).getD (0 + k) [])).getD 0 .dead)]) := by
  rw [mapGet h, hc]
  exact ⟨Nat.succ_pos _, rfl⟩
end
end Mg

/- The abstract state logic, part 35: a live list that is written no more, in the middle of code. No condition. -/
namespace Mg
open Go Go.RowKit
set_option linter.unusedVariables false
variable {P : Program} {T : Tab}

def frzW (s : S) (fs : List Nat) : MV → MV
  | .tup vs => .tup vs
  | .un => .un
  | v => frzV s fs v
/-- The state where object id is written no more. -/
def S.frz (s : S) (id : Nat) : S := ⟨s.m, s.n, s.env.map fun q => (q.1, frzW s [id] q.2), delL s.st [id]⟩
theorem frzC_bd {s : S} {fs : List Nat} {c : MC} {n : Nat} (h : c.bd n) : (frzC s fs c).bd n := by
  cases c <;> simp only [frzC] <;> first | exact h | trivial | (split <;> first | exact h | trivial)
theorem frzW_bd {s : S} {fs : List Nat} {v : MV} {n : Nat} (h : v.bd n) : (frzW s fs v).bd n := by
  cases v with
  | un => trivial
  | one c => exact frzC_bd (c := c) h
  | agg cs =>
    intro c hc
    obtain ⟨d, hd, rfl⟩ := List.mem_map.1 hc
    exact frzC_bd (h d hd)
  | tup vs => exact h
theorem look_map2 {α β : Type} (f : α → β) : ∀ (l : List (Nat × α)) (t : Nat), look (l.map fun q => (q.1, f q.2)) t = (look l t).map f
  | [], t => rfl
  | (k, v) :: l, t => by
    rw [List.map_cons, look_cons, look_cons, look_map2 f l t]
    split <;> rfl
theorem W.frz {k : Nat} {c : Code} {s : S} {Q : Exit → S → Prop} (id : Nat) {rows : List (List MC)} (hid : look s.st id = some (.arr rows)) (hall : AllF rows) (h : fS (s.frz id) fun s' => W k P c s' Q) : W k P c s Q := fun w0 wr A a w hk ⟨L, F, hr⟩ => by
  rw [fS_eq] at h
  obtain ⟨F2, hR2, hle, hrc, hout, hfz⟩ := frz_all [id] hr (by simp) (fun i hi => by
    obtain rfl : i = id := by simpa using hi
    exact ⟨rows, hid, hall⟩)
  refine h w0 wr A a w hk ⟨L, F2, ?_⟩
  refine ⟨hR2.os, hR2.tape, hR2.output, hR2.size, hR2.keep, hR2.kc, hR2.pin, hR2.fa, hR2.fn, hR2.fsz, hR2.ob, hR2.own, hR2.inj, hR2.sz, ?_, hR2.bst, ?_, hR2.df⟩
  · intro t v hv
    simp only [S.frz] at hv
    rw [look_map2] at hv
    obtain ⟨x, hx, rfl⟩ := Option.map_eq_some_iff.1 hv
    have h1 := hr.env t x hx
    have h2 := hR2.env t x hx
    cases x with
    | un => trivial
    | one c => exact frzV_ok (x := .one c) hrc hfz rfl h1
    | agg cs => exact frzV_ok (x := .agg cs) hrc hfz rfl h1
    | tup vs => exact h2
  · intro t v hv
    simp only [S.frz] at hv
    rw [look_map2] at hv
    obtain ⟨x, hx, rfl⟩ := Option.map_eq_some_iff.1 hv
    exact frzW_bd (hr.ben t x hx)
/-- Nothing, in a box, read as an empty list. -/
theorem Rl.nfb {w0 : World} {wr : Wr} {A : Nat → Prop} {L : Lay} {F : FF} {s : S} {a : Act} {w : World} (h : Rl w0 wr A L F s a w) {id : Nat} {cs : List MC} (hid : look s.st id = some (.box cs)) :
    Rl w0 wr A L F (s.set id (.box (cs.map MC.nf))) a w := by
  have hi : ∀ x : MC, ∀ u, RC (look s.st) L w F x u → RC (look (s.set id (.box (cs.map MC.nf))).st) L w F x u := fun x u hr =>
    RC.set hid (o' := .box (cs.map MC.nf)) trivial (fun _ _ => rfl) (fun _ _ _ _ _ _ hj => hj) hr
  refine ⟨h.os, h.tape, h.output, h.size, h.keep, h.kc, h.pin, h.fa, h.fn, h.fsz, ?_, ?_, ?_, h.sz, ?_, ?_, h.ben, h.df⟩
  · intro i x hx
    by_cases e : i = id
    · subst e
      have : x = .box (cs.map MC.nf) := by simpa [S.set, look_upd, hid] using hx.symm
      subst this
      obtain ⟨b, t, h1, h2, h4⟩ := h.ob i _ hid
      refine ⟨b, t, h1, h2, fun j x hj => ?_⟩
      rw [List.getElem?_map] at hj
      obtain ⟨x0, hx0, rfl⟩ := Option.map_eq_some_iff.1 hj
      obtain ⟨u, hu, hru⟩ := h4 j x0 hx0
      exact ⟨u, hu, (hi x0 u hru).nf⟩
    · rw [look_set_ne e] at hx
      exact (h.ob i x hx).imp (h.bst i x hx).2 rfl (fun k t' hk => rfl) (fun x _ u hr => hi x u hr)
  · intro i k t' h1 h2
    rw [look_set_some hid] at h1
    exact h.own i k t' h1 h2
  · intro i j k t1 t2 h1 h2 h3 h4
    rw [look_set_some hid] at h1 h2
    exact h.inj i j k t1 t2 h1 h2 h3 h4
  · intro t' v hv
    exact (h.env t' v hv).imp (h.ben t' v hv) (fun x _ u hr => hi x u hr)
  · intro i x hx
    by_cases e : i = id
    · subst e
      have : x = .box (cs.map MC.nf) := by simpa [S.set, look_upd, hid] using hx.symm
      subst this
      have hb := h.bst i _ hid
      refine ⟨hb.1, ?_⟩
      have h2 : ∀ c ∈ cs, c.bd s.n := hb.2
      show ∀ c ∈ cs.map MC.nf, c.bd s.n
      intro c hc
      obtain ⟨c0, hc0, rfl⟩ := List.mem_map.1 hc
      exact MC.nf_bd (h2 c0 hc0)
    · rw [look_set_ne e] at hx
      exact h.bst i x hx
def S.nfb (s : S) (id : Nat) : Option S := match look s.st id with
  | some (.box cs) => some (s.set id (.box (cs.map MC.nf)))
  | _ => none
theorem W.nfb {k : Nat} {c : Code} {s s' : S} {Q : Exit → S → Prop} (id : Nat) (hs : s.nfb id = some s') (h : fS s' fun s' => W k P c s' Q) : W k P c s Q := fun w0 wr A a w hk ⟨L, F, hr⟩ => by
  rw [fS_eq] at h
  unfold S.nfb at hs
  split at hs
  · rename_i cs hlk
    obtain rfl := Option.some.inj hs
    exact h w0 wr A a w hk ⟨L, F, hr.nfb hlk⟩
  · cases hs
end Mg

/- The abstract state logic, part 36: a live list in a box's cell, written no more, with parts of the arguments in it. No condition. -/
namespace Mg
open Go Go.RowKit
set_option linter.unusedVariables false
variable {P : Program} {T : Tab}

/-- A box's cell, read otherwise. -/
theorem Rl.cell {w0 : World} {wr : Wr} {A : Nat → Prop} {L : Lay} {F : FF} {s : S} {a : Act} {w : World} (h : Rl w0 wr A L F s a w) {b j : Nat} {cs : List MC} {c : MC} (hid : look s.st b = some (.box cs)) (hbd : c.bd s.n)
    (hc : ∀ k t, L b = some (k, t) → ∀ u, w.cell? ⟨k, 0 + j, none⟩ = some u → RC (look s.st) L w F c u) : Rl w0 wr A L F (s.set b (.box (cs.set j c))) a w := by
  have hi : ∀ x : MC, ∀ u, RC (look s.st) L w F x u → RC (look (s.set b (.box (cs.set j c))).st) L w F x u := fun x u hr =>
    RC.set hid (o' := .box (cs.set j c)) trivial (fun _ _ => rfl) (fun _ _ _ _ _ _ hj => hj) hr
  refine ⟨h.os, h.tape, h.output, h.size, h.keep, h.kc, h.pin, h.fa, h.fn, h.fsz, ?_, ?_, ?_, h.sz, ?_, ?_, h.ben, h.df⟩
  · intro i x hx
    by_cases e : i = b
    · subst e
      have : x = .box (cs.set j c) := by simpa [S.set, look_upd, hid] using hx.symm
      subst this
      obtain ⟨k, t, h1, h2, h4⟩ := h.ob i _ hid
      refine ⟨k, t, h1, h2, fun i2 x hj => ?_⟩
      rw [List.getElem?_set] at hj
      by_cases e2 : j = i2
      · subst e2
        rw [if_pos rfl] at hj
        split at hj
        · rename_i hlt
          obtain rfl := Option.some.inj hj
          obtain ⟨u, hu, _⟩ := h4 j _ (List.getElem?_eq_getElem hlt)
          exact ⟨u, hu, hi _ u (hc k t h1 u hu)⟩
        · cases hj
      · rw [if_neg e2] at hj
        obtain ⟨u, hu, hru⟩ := h4 i2 x hj
        exact ⟨u, hu, hi x u hru⟩
    · rw [look_set_ne e] at hx
      exact (h.ob i x hx).imp (h.bst i x hx).2 rfl (fun k t' hk => rfl) (fun x _ u hr => hi x u hr)
  · intro i k t' h1 h2
    rw [look_set_some hid] at h1
    exact h.own i k t' h1 h2
  · intro i j k t1 t2 h1 h2 h3 h4
    rw [look_set_some hid] at h1 h2
    exact h.inj i j k t1 t2 h1 h2 h3 h4
  · intro t' v hv
    exact (h.env t' v hv).imp (h.ben t' v hv) (fun x _ u hr => hi x u hr)
  · intro i x hx
    by_cases e : i = b
    · subst e
      have : x = .box (cs.set j c) := by simpa [S.set, look_upd, hid] using hx.symm
      subst this
      have hb := h.bst i _ hid
      refine ⟨hb.1, ?_⟩
      have h2 : ∀ c ∈ cs, c.bd s.n := hb.2
      show ∀ x ∈ cs.set j c, x.bd s.n
      intro x hx
      rcases List.mem_or_eq_of_mem_set hx with hx | rfl
      · exact h2 x hx
      · exact hbd
    · rw [look_set_ne e] at hx
      exact h.bst i x hx

def MC.unA : MC → MC
  | .ag r => .fz r
  | c => c
def MC.fa : MC → Bool
  | .sc _ | .fz _ | .ag _ => true
  | _ => false
theorem RC.unA {st : Sto} {L : Lay} {w : World} {F : FF} {c : MC} {u : Value} (h : RC st L w F c u) (hf : c.fa = true) : RF w F.all c.unA u := by
  cases c <;> simp [MC.fa] at hf
  · obtain ⟨rfl, h1⟩ := h; exact .sc _ h1
  · exact RF.mono (fun _ _ => rfl) (fun b hb => .inl hb) h
  · exact h
/-- Every cell is read already. -/
structure AllA (rows : List (List MC)) : Prop where
  h : ∀ r ∈ rows, ∀ c ∈ r, c.fa = true
def S.frzA (s : S) (b j : Nat) : Option (Nat × List (List MC) × S) := match look s.st b with
  | some (.box cs) => match cs[j]? with
    | some (.ref id off len) => match look s.st id with
      | some (.arr rows) => some (id, rows, { s with st := upd (del s.st id) b (.box (cs.set j (.ag (((rows.drop off).take len).map fun r => r.map MC.unA)))) })
      | _ => none
    | _ => none
  | _ => none
theorem W.frzA {k : Nat} {c : Code} {s s' : S} {Q : Exit → S → Prop} (b j : Nat) {id : Nat} {rows : List (List MC)} (hs : s.frzA b j = some (id, rows, s')) (hall : AllA rows) (h : fS s' fun s' => W k P c s' Q) : W k P c s Q := fun w0 wr A a w hk ⟨L, F, hr⟩ => by
  rw [fS_eq] at h
  unfold S.frzA at hs
  split at hs
  case h_2 => cases hs
  rename_i cs hb
  split at hs
  case h_2 => cases hs
  rename_i id0 off len hj
  split at hs
  case h_2 => cases hs
  rename_i rows0 hid
  have hs1 := Prod.mk.inj (Option.some.inj hs)
  have hs2 := Prod.mk.inj hs1.2
  obtain rfl := hs1.1
  obtain rfl := hs2.1
  obtain rfl := hs2.2
  have hbi : b ≠ id0 := fun e => by subst e; rw [hb] at hid; cases hid
  obtain ⟨kb, tb, hLb, _, hcb⟩ := hr.ob b _ hb
  obtain ⟨u0, hu0, hru0⟩ := hcb j _ hj
  obtain ⟨bb, cap, hv, hle, _⟩ := hru0.2 rows0 hid
  have hlen : ((((rows0.drop off).take len).map fun r => r.map MC.unA)).length = len := by simp; omega
  -- freeze, then read the cell otherwise
  have key : ∀ F2 : FF, (∀ x, F.all x → F2.all x) → (∀ bk t, L id0 = some (bk, t) → F2.all bk) → RF w F2.all (.fz (((rows0.drop off).take len).map fun r => r.map MC.unA)) u0 := fun F2 hF hbk => by
    by_cases hn : len = 0
    · subst hn; rw [hv]; simp; exact .nilz _ _
    · obtain ⟨bk, st, cap', hL, hv', _, hcap, _, _, hsz, hw⟩ := ref_row hr hru0 hid hn
      rw [hv']
      have := RF.mk (w := w) (F := F2.all) (rows := ((rows0.drop off).take len).map fun r => r.map MC.unA) (a := some ⟨bk, off * st, none⟩) (cap := cap') (by omega) (fun _ => ⟨bk, off * st, st, rfl, hbk bk st hL, fun r hr' => by
          obtain ⟨r0, hr0, rfl⟩ := List.mem_map.1 hr'
          rw [List.length_map]
          exact hsz r0 (List.mem_of_mem_drop (List.mem_of_mem_take hr0)), fun i j' r c hi hj' => by
        rw [List.getElem?_map] at hi
        obtain ⟨r0, hi0, rfl⟩ := Option.map_eq_some_iff.1 hi
        rw [List.getElem?_map] at hj'
        obtain ⟨c0, hc0, rfl⟩ := Option.map_eq_some_iff.1 hj'
        have hf := hall.h r0 (List.mem_of_mem_drop (List.mem_of_mem_take (List.mem_of_getElem? hi0))) c0 (List.mem_of_getElem? hc0)
        rw [List.getElem?_take] at hi0
        split at hi0
        · rw [List.getElem?_drop] at hi0
          obtain ⟨u, hu, hru⟩ := hw _ r0 hi0 j' c0 hc0
          refine ⟨u, ?_, RF.mono (fun _ _ => rfl) hF (hru.unA hf)⟩
          rw [← hu]; congr 2; rw [Nat.add_mul]; omega
        · cases hi0⟩)
      rwa [hlen] at this
  have hdb : look (del s.st id0) b = some (.box cs) := by rw [look_del, if_neg hbi]; exact hb
  cases hL : L id0 with
  | some q =>
    obtain ⟨bk, t⟩ := q
    have hR2 := hr.freeze hid hL
    refine h w0 wr A a w hk ⟨L, _, hR2.cell (j := j) (c := .ag (((rows0.drop off).take len).map fun r => r.map MC.unA)) hdb trivial (fun k t2 hk2 u hu => ?_)⟩
    rw [hLb] at hk2
    obtain ⟨rfl, rfl⟩ := Prod.mk.inj (Option.some.inj hk2)
    rw [hu0] at hu
    obtain rfl := Option.some.inj hu
    refine key _ (fun x hx => hx.imp Or.inl id) (fun bk2 t3 h3 => ?_)
    rw [hL] at h3
    obtain ⟨rfl, rfl⟩ := Prod.mk.inj (Option.some.inj h3)
    exact .inl (.inr rfl)
  | none =>
    have hsub : Sub { s with st := del s.st id0 } s := by
      refine ⟨rfl, fun t v hv => ⟨hv, hr.ben t v hv⟩, fun i o ho => ?_⟩
      simp only [look_del] at ho
      split at ho
      · cases ho
      · exact ⟨ho, hr.bst i o ho⟩
    · have hR2 := hr.weaken hsub (fun i hi => (hr.pin i hi).2)
      refine h w0 wr A a w hk ⟨L, _, hR2.cell (j := j) (c := .ag (((rows0.drop off).take len).map fun r => r.map MC.unA)) hdb trivial (fun k t2 hk2 u hu => ?_)⟩
      rw [hLb] at hk2
      obtain ⟨rfl, rfl⟩ := Prod.mk.inj (Option.some.inj hk2)
      rw [hu0] at hu
      obtain rfl := Option.some.inj hu
      exact key _ (fun x hx => hx) (fun bk2 t3 h3 => by rw [hL] at h3; cases h3)
end Mg
