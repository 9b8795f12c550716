/- Parts of the abstract state logic and of the walks, one behind the other: Mg40, Mg41, Mg47, Mg42, Mg43, Mg23, R1T, R1D. No condition. -/
import Derived.Test.YtedgmfmhilihoaaGreatP13
import Derived.Test.YtedgmfmhilihoaaGreatP12
import Derived.Test.YtedgmfmhilihoaaGreatP11
import Derived.Test.YtedgmfmhilihoaaGreatRows
/- The abstract state logic, part 40: functions that write into trees, out of their bodies; flat functions as makers of trees. No condition. -/
namespace Mg
open Go Go.RowKit
set_option linter.unusedVariables false

variable {P : Program} {T : Tab}

theorem OC.tr {w : World} {F : Nat → Prop} {cs : List MC} {vs : List Value} {bs : List Nat} (h : OC w F cs vs bs) (hlt : ∀ b ∈ bs, b < w.heap.size) (hsc : ∀ c ∈ cs, (∃ v, c = .sc v) ∨ ∃ rows, c = .own rows ∧ ∀ r ∈ rows, ∀ c ∈ r, ∃ v, c = .sc v) (hnd : bs.Nodup) :
    vs.length = cs.length ∧ ∃ B : Nat → Tk, (∀ (j : Nat) (c : MC), cs[j]? = some c → ∃ u : Value, vs[j]? = some u ∧ RT w (labc true (B j) c.fr) u) ∧ (∀ j x, (B j).B x → x ∈ bs) ∧ ∀ j j' x, (B j).B x → (B j').B x → j = j' := by
  induction h with
  | nil => exact ⟨rfl, fun _ => ⟨fun _ => False, undef⟩, fun j c hj => by simp at hj, fun _ _ h => h.elim, fun _ _ _ h => h.elim⟩
  | fz h t ih =>
    rename_i c v cs vs bs
    obtain ⟨h1, B, h2, h3, h4⟩ := ih hlt (fun c hc => hsc c (List.mem_cons_of_mem _ hc)) hnd
    refine ⟨by simp [h1], fun j => match j with | 0 => ⟨fun _ => False, undef⟩ | j + 1 => B j, fun j c' hj => ?_, fun j x hx => ?_, fun j j' x hx hx' => ?_⟩
    · cases j with
      | zero =>
        obtain rfl := Option.some.inj hj
        rcases hsc c (by simp) with ⟨u, rfl⟩ | ⟨rows, rfl, _⟩
        · cases h with | sc _ h => exact ⟨_, rfl, rfl, h⟩
        · cases h
      | succ j => exact h2 j c' hj
    · cases j with
      | zero => exact hx.elim
      | succ j => exact h3 j x hx
    · cases j with
      | zero => exact hx.elim
      | succ j => cases j' with
        | zero => exact hx'.elim
        | succ j' => rw [h4 j j' x hx hx']
  | own0 t ih =>
    rename_i a cs vs bs
    obtain ⟨h1, B, h2, h3, h4⟩ := ih hlt (fun c hc => hsc c (List.mem_cons_of_mem _ hc)) hnd
    refine ⟨by simp [h1], fun j => match j with | 0 => ⟨fun _ => False, .slice a 0 0⟩ | j + 1 => B j, fun j c' hj => ?_, fun j x hx => ?_, fun j j' x hx hx' => ?_⟩
    · cases j with
      | zero =>
        obtain rfl := Option.some.inj hj
        exact ⟨_, rfl, rfl, TR.nilz a _ fun _ h => h⟩
      | succ j => exact h2 j c' hj
    · cases j with
      | zero => exact hx.elim
      | succ j => exact h3 j x hx
    · cases j with
      | zero => exact hx.elim
      | succ j => cases j' with
        | zero => exact hx'.elim
        | succ j' => rw [h4 j j' x hx hx']
  | own h t ih =>
    rename_i b s cap rows cs vs bs
    obtain ⟨hnb, hnd⟩ := List.nodup_cons.1 hnd
    obtain ⟨h1, B, h2, h3, h4⟩ := ih (fun b hb => hlt b (List.mem_cons_of_mem _ hb)) (fun c hc => hsc c (List.mem_cons_of_mem _ hc)) hnd
    refine ⟨by simp [h1], fun j => match j with | 0 => ⟨fun x => x = b, .slice (some ⟨b, 0, none⟩) rows.length cap⟩ | j + 1 => B j, fun j c' hj => ?_, fun j x hx => ?_, fun j j' x hx hx' => ?_⟩
    · cases j with
      | zero =>
        obtain rfl := Option.some.inj hj
        rcases hsc (.own rows) (by simp) with ⟨u, hu⟩ | ⟨rows', he, hr⟩
        · cases hu
        · obtain rfl := MC.own.inj he
          exact ⟨_, rfl, rfl, h.tr hr (hlt b (by simp))⟩
      | succ j => exact h2 j c' hj
    · cases j with
      | zero => have hx : x = b := hx; subst hx; simp
      | succ j => exact List.mem_cons_of_mem _ (h3 j x hx)
    · cases j with
      | zero => cases j' with
        | zero => rfl
        | succ j' => have hx : x = b := hx; subst hx; exact absurd (h3 j' _ hx') hnb
      | succ j => cases j' with
        | zero => have hx' : x = b := hx'; subst hx'; exact absurd (h3 j _ hx) hnb
        | succ j' => rw [h4 j j' x hx hx']

/-- A flat function, as a maker of trees. -/
def flat1 : MV → Prop
  | .one c => (∃ v, c = .sc v) ∨ ∃ rows, c = .own rows ∧ ∀ r ∈ rows, ∀ c ∈ r, ∃ v, c = .sc v
  | .agg cs => ∀ c ∈ cs, (∃ v, c = .sc v) ∨ ∃ rows, c = .own rows ∧ ∀ r ∈ rows, ∀ c ∈ r, ∃ v, c = .sc v
  | _ => False
theorem Pure.toT {f : Nat} {args : List MV} {r r' : MV} (h : Pure P false f args r) (hf : flat1 r) (e : frV1 r = r') : TPure P f args r' := by
  subst e
  refine ⟨h.1, fun w A vals h1 h2 h3 h4 => (h.2 w A vals h1 h2 h3 h4).mono fun e w' ⟨v, F, bs, he, hbel, hF, hov, hnd, hbs⟩ => ?_⟩
  have hlt : ∀ b ∈ bs, b < w'.heap.size := fun b hb => (hbs b hb).2.1
  cases r with
  | one c =>
    obtain ⟨g1, B, g2, g3, g4⟩ := OC.tr (cs := [c]) hov hlt (fun c' hc' => by have e : c' = c := (by simpa using hc'); rw [e]; exact hf) hnd
    obtain ⟨u, hu, hr⟩ := g2 0 c rfl
    obtain rfl := Option.some.inj hu
    refine ⟨v, fun i j => match i with | 0 => B j | _ + 1 => ⟨fun _ => False, undef⟩, he, hbel, hr, ?_, ?_⟩
    · intro i j i' j' x k1 k2
      cases i <;> cases i' <;> first | exact k1.elim | exact k2.elim | exact ⟨rfl, g4 j j' x k1 k2⟩
    · rintro b ⟨i, j, hb⟩
      cases i <;> first | exact hb.elim | skip
      have := hbs b (g3 j b hb); exact ⟨this.1, this.2.1⟩
  | agg cs =>
    obtain ⟨arr, rfl, hoc⟩ := hov
    obtain ⟨g1, B, g2, g3, g4⟩ := OC.tr hoc hlt hf hnd
    refine ⟨.agg arr, fun i j => match i with | 0 => B j | _ + 1 => ⟨fun _ => False, undef⟩, he, hbel, ⟨arr, rfl, by rw [labRow_len, List.length_map]; simpa using g1, fun j c hj => ?_⟩, ?_, ?_⟩
    · rw [labRow_get] at hj
      obtain ⟨d, hd, rfl⟩ := Option.map_eq_some_iff.1 hj
      rw [List.getElem?_map] at hd
      obtain ⟨c0, hc0, rfl⟩ := Option.map_eq_some_iff.1 hd
      obtain ⟨u, hu, hr⟩ := g2 j c0 hc0
      exact ⟨u, by simpa using hu, by rw [Nat.zero_add]; exact hr⟩
    · intro i j i' j' x k1 k2
      cases i <;> cases i' <;> first | exact k1.elim | exact k2.elim | exact ⟨rfl, g4 j j' x k1 k2⟩
    · rintro b ⟨i, j, hb⟩
      cases i <;> first | exact hb.elim | skip
      have := hbs b (g3 j b hb); exact ⟨this.1, this.2.1⟩
  | un => exact hf.elim
  | tup _ => exact hf.elim

/- ------------------------------------------------ functions that write -/
/-- Cells of one make. -/
def like (c c' : MC) : Prop := match c, c' with
  | .sc _, .sc _ => True
  | .fz _, .fz _ => True
  | _, _ => False
def likeR (rows rows' : List (List MC)) : Prop := rows.length = rows'.length ∧ ∀ (i : Nat) (r r' : List MC), rows[i]? = some r → rows'[i]? = some r' → r.length = r'.length ∧ ∀ (j : Nat) (c c' : MC), r[j]? = some c → r'[j]? = some c' → like c c'

/-- The end of a function that writes a list. -/
def endMF (T : Tab) (fn : Func) (B : Nat → Nat → Tk) (rows rows' : List (List MC)) (k' : Int) (s : S) : Prop :=
  match resL T s fn.results.toList with
  | some (p, [.one (.sc (.int .i64 n))]) => match look s.st 0 with
    | some (.arr X) => Side p ∧ Side (n = k') ∧ Side (X = labR true B 0 rows') ∧ Side (likeR rows rows')
    | _ => False
  | _ => False
def endME (T : Tab) (fn : Func) (B : Nat → Nat → Tk) (rows rows' : List (List MC)) (k' : Int) : Exit → S → Prop
  | .normal, s => endMF T fn B rows rows' k' s
  | .ret, s => endMF T fn B rows rows' k' s
  | _, _ => False

theorem like_lab {B : Tk} {c c' : MC} {x : Nat} (h : like c c') : inC x (labc true B c) ↔ inC x (labc true B c') := by
  cases c <;> cases c' <;> first | exact h.elim | exact Iff.rfl

theorem one_res {fn : Func} {s : S} {a : Act} {w' w0 : World} {wr : Wr} {A : Nat → Prop} {L : Lay} {F : FF} (hT : TOk P T) (h : Rl w0 wr A L F s a w') {p : Prop} {v : MV} (hres : resL T s fn.results.toList = some (p, [v])) (hp : p) :
    ∃ u, (results fn a.tmps).run P w' = .ok u w' ∧ RV (look s.st) L w' F v u := by
  obtain ⟨us, hus, hlen, hr⟩ := resL_ok hT h hres hp
  obtain ⟨u, hu, hru⟩ := hr 0 v rfl
  have hus1 : us = [u] := by
    cases us with
    | nil => simp at hlen
    | cons x t =>
      obtain rfl : x = u := by simpa using hu
      have : t = [] := List.eq_nil_of_length_eq_zero (by simpa using hlen)
      rw [this]
  subst hus1
  exact ⟨u, by simpa using results_run hus, hru⟩

/-- A CONTRACT of a function that writes a list. -/
theorem TMark.vcL {f : Nat} {fn : Func} {c : Code} {rows rows' : List (List MC)} {k k' : Int} (hs : (Nat → Nat → Tk) → List (Nat × Hint)) (hT : TOk P T) (hm : P.follows .mixedOrders = true) (hf : P.funcs[f]? = some fn) (hn : (fn.name == "runtime.NumGoroutine") = false) (hb : fn.body = some c) (hl : Nat.ble 2 fn.ntmps = true) (hall : AllF rows) (hall' : AllF rows')
    (h : ∀ B, Apart B → fS ⟨fn.ntmps, 1, [(0, .one (.ref 0 0 rows.length)), (1, .one (.sc (.int .i64 k)))], [(0, .arr (labR true B 0 rows))]⟩ fun s => Mg.vc 1 P T c (hs B) s (endME T fn B rows rows' k')) : TMark P f (.one (.fz rows)) k (.one (.fz rows')) k' := by
  refine ⟨⟨fn, hf, hn, by rw [hb]; rfl⟩, ?_⟩
  intro w v B0 hrt hap hgt
  obtain ⟨hvu, htr⟩ : v = (B0 0 0).u ∧ TR w (.fz rows) v (B0 0 0).B := hrt
  subst hvu
  -- the tree, opened
  have hopen : ∃ (L : Lay) (B : Nat → Nat → Tk), Apart B ∧ Rel w ⟨(B0 0 0).B, 1, L, fun _ => False⟩ (fun _ => False) ⟨fn.ntmps, 1, [(0, .one (.ref 0 0 rows.length)), (1, .one (.sc (.int .i64 k)))], [(0, .arr (labR true B 0 rows))]⟩ (tmps0 fn.ntmps #[(B0 0 0).u, .int .i64 k]) w ∧
      ((rows = [] ∧ (∃ a, (B0 0 0).u = .slice a 0 0) ∧ ∀ b, ¬ (B0 0 0).B b) ∨ ∃ b s cap, (B0 0 0).u = .slice (some ⟨b, 0, none⟩) rows.length cap ∧ rows.length ≤ cap ∧ rows ≠ [] ∧ (∀ j, j < cap * s → (w.cell? ⟨b, j, none⟩).isSome = true) ∧ b < w.heap.size ∧ L 0 = some (b, s) ∧
        ∀ x, (B0 0 0).B x ↔ x = b ∨ ∃ i j r c, rows[i]? = some r ∧ r[j]? = some c ∧ inC x (labc true (B i j) c)) := by
    generalize (B0 0 0).u = u at *
    generalize (B0 0 0).B = N at *
    have htm : ∀ t v', look [(0, MV.one (.ref 0 0 rows.length)), (1, .one (.sc (.int .i64 k)))] t = some v' → (t = 0 ∧ v' = .one (.ref 0 0 rows.length)) ∨ (t = 1 ∧ v' = .one (.sc (.int .i64 k))) := fun t v' ht => by
      simp only [look_cons, look_nil] at ht
      split at ht
      · rename_i e; exact .inl ⟨e, (Option.some.inj ht).symm⟩
      · split at ht
        · rename_i e; exact .inr ⟨e, (Option.some.inj ht).symm⟩
        · cases ht
    have hst0 : ∀ id o X, look [(0, Ob.arr X)] id = some o → id = 0 ∧ o = .arr X := fun id o X ho => by
      simp only [look_cons, look_nil] at ho
      split at ho
      · rename_i e; exact ⟨e, (Option.some.inj ho).symm⟩
      · cases ho
    have e0 : (tmps0 fn.ntmps #[u, .int .i64 k]).tmps.getD 0 undef = u := tmps0_get rfl
    have e1 : (tmps0 fn.ntmps #[u, .int .i64 k]).tmps.getD 1 undef = .int .i64 k := tmps0_get rfl
    have hsz : (tmps0 fn.ntmps #[u, .int .i64 k]).tmps.size = fn.ntmps := by have := Nat.le_of_ble_eq_true hl; simp [tmps0]; omega
    generalize hrw : (MC.fz rows) = mc at htr
    cases htr with
    | sc => cases hrw
    | nilz a N hN =>
      obtain rfl := MC.fz.inj hrw
      refine ⟨fun _ => none, fun _ _ => ⟨fun _ => False, undef⟩, fun _ _ _ _ _ h => h.elim, ⟨fun _ => none, ⟨fun _ => False, fun _ => False⟩, rfl, rfl, rfl, Nat.le_refl _, fun _ _ _ => rfl, fun _ _ _ h => h, fun i hi => ⟨rfl, hi⟩, rfl, fun b hb => hb.elim, fun b hb => hb.elim (fun x => x.elim) (fun x => x.elim), ?_, ?_, ?_, hsz, ?_, ?_, ?_, rfl⟩, .inl ⟨rfl, ⟨a, rfl⟩, hN⟩⟩
      · intro id o ho; obtain ⟨rfl, rfl⟩ := hst0 id o _ ho; exact .inl ⟨rfl, rfl⟩
      · intro id b t _ h2; cases h2
      · intro i j b t u _ _ h2; cases h2
      · intro t v' ht
        rcases htm t v' ht with ⟨rfl, rfl⟩ | ⟨rfl, rfl⟩
        · rw [e0]; exact ⟨rfl, fun rows' hr' => by obtain ⟨_, h3⟩ := hst0 _ _ _ hr'; obtain rfl := Ob.arr.inj h3; exact ⟨a, 0, rfl, Nat.le_refl _, .inr ⟨rfl, rfl⟩⟩⟩
        · rw [e1]; exact ⟨rfl, rfl⟩
      · intro id o ho; obtain ⟨rfl, rfl⟩ := hst0 id o _ ho; exact ⟨Nat.zero_lt_one, fun r hr => by cases hr⟩
      · intro t v' ht
        rcases htm t v' ht with ⟨rfl, rfl⟩ | ⟨rfl, rfl⟩
        · exact Nat.zero_lt_one
        · trivial
    | fz rows0 b cap s fv Bs N h0 hfr hs hcap hx hszb hc hr hd hbb hB hin =>
      obtain rfl := MC.fz.inj hrw
      let B : Nat → Nat → Tk := fun i j => ⟨Bs i j, fv i j⟩
      have hsc : ∀ i j r c, rows[i]? = some r → r[j]? = some c → ∀ x, Bs i j x → inC x (labc true (B i j) c) := fun i j r c h1 h2 x hx' => by
        have hf := hall r (List.mem_of_getElem? h1) c (List.mem_of_getElem? h2)
        cases c <;> first | (cases hf; done) | skip
        · have := hr i j r _ h1 h2
          cases this with
          | sc _ _ _ hn => exact absurd hx' (hn x)
        · exact hx'
      have hsub : ∀ x i j, Bs i j x → N x := fun x i j hx' => (hB x).2 (.inr ⟨i, j, hx'⟩)
      refine ⟨fun id => match id with | 0 => some (b, s) | _ + 1 => none, B, fun i j i' j' x h1 h2 => hd i j i' j' x h1 h2, ⟨fun id => match id with | 0 => some (b, s) | _ + 1 => none, ⟨fun x => ∃ i j, Bs i j x, fun _ => False⟩, rfl, rfl, rfl, Nat.le_refl _, fun _ _ _ => rfl, fun _ _ _ h => h, fun i hi => ⟨rfl, hi⟩, rfl, fun x ⟨i, j, hx'⟩ => .inr (.inl (hsub x i j hx')), ?_, ?_, ?_, ?_, hsz, ?_, ?_, ?_, rfl⟩,
        .inr ⟨b, s, cap, rfl, hcap, h0, hx, hszb, rfl, fun x => ⟨fun hx' => ((hB x).1 hx').imp id fun ⟨i, j, hij⟩ => ?_, fun hx' => (hB x).2 (hx'.imp id fun ⟨i, j, r, c, h1, h2, h3⟩ => ⟨i, j, ?_⟩)⟩⟩⟩
      · rintro x (⟨i, j, hx'⟩ | hx')
        · obtain ⟨r, c, h1, h2⟩ := hin i j x hx'
          exact (hr i j r c h1 h2).lt x hx'
        · exact hx'.elim
      · intro id o ho
        obtain ⟨rfl, rfl⟩ := hst0 id o _ ho
        refine .inr ⟨b, s, rfl, hfr, fun r hr' => ?_, fun i r' hi j d hj => ?_⟩
        · obtain ⟨i, hi⟩ := List.getElem?_of_mem hr'
          rw [labR_get] at hi
          obtain ⟨r0, h1, rfl⟩ := Option.map_eq_some_iff.1 hi
          rw [labRow_len]; exact hs r0 (List.mem_of_getElem? h1)
        · rw [labR_get] at hi
          obtain ⟨r0, h1, rfl⟩ := Option.map_eq_some_iff.1 hi
          rw [labRow_get] at hj
          obtain ⟨c0, h2, rfl⟩ := Option.map_eq_some_iff.1 hj
          refine ⟨fv i j, hc i j r0 c0 h1 h2, ?_⟩
          have ht := hr i j r0 c0 h1 h2
          have hf := hall r0 (List.mem_of_getElem? h1) c0 (List.mem_of_getElem? h2)
          rw [Nat.zero_add, Nat.zero_add]
          cases c0 <;> first | (cases hf; done) | skip
          · generalize fv i j = vv at *
            cases ht with
            | sc _ _ h _ => exact ⟨rfl, h⟩
          · exact ⟨rfl, fun x hx' => ⟨.inl ⟨i, j, hx'⟩, fun _ => ⟨⟨i, j, hx'⟩, fun h => h⟩⟩, ht⟩
      · intro id b' t h1 h2
        cases id with
        | succ id => cases h2
        | zero =>
          obtain ⟨rfl, rfl⟩ := Prod.mk.inj (Option.some.inj h2)
          refine ⟨?_, hszb, .inr ((hB b).2 (.inl rfl))⟩
          rintro (⟨i, j, hx'⟩ | hx')
          · exact hbb i j hx'
          · exact hx'
      · intro i j b' t u' _ _ h1 h2
        cases i <;> cases j <;> first | rfl | (cases h1; done) | (cases h2; done)
      · intro t v' ht
        rcases htm t v' ht with ⟨rfl, rfl⟩ | ⟨rfl, rfl⟩
        · rw [e0]
          refine ⟨rfl, fun rows' hr' => ?_⟩
          obtain ⟨_, h3⟩ := hst0 _ _ _ hr'
          obtain rfl := Ob.arr.inj h3
          refine ⟨_, cap, rfl, by rw [labR_len]; omega, .inl ⟨b, s, rfl, by rw [Nat.zero_mul], hcap, fun e => h0 (List.eq_nil_of_length_eq_zero (by rw [← labR_len true B rows 0, e]; rfl)), fun j hj => hx j (by simpa using hj)⟩⟩
        · rw [e1]; exact ⟨rfl, rfl⟩
      · intro id o ho
        obtain ⟨rfl, rfl⟩ := hst0 id o _ ho
        refine ⟨Nat.zero_lt_one, fun r hr' c' hc' => ?_⟩
        obtain ⟨i, hi⟩ := List.getElem?_of_mem hr'
        rw [labR_get] at hi
        obtain ⟨r0, h1, rfl⟩ := Option.map_eq_some_iff.1 hi
        obtain ⟨j, hj⟩ := List.getElem?_of_mem hc'
        rw [labRow_get] at hj
        obtain ⟨c0, h2, rfl⟩ := Option.map_eq_some_iff.1 hj
        have hf := hall r0 (List.mem_of_getElem? h1) c0 (List.mem_of_getElem? h2)
        cases c0 <;> first | (cases hf; done) | trivial
      · intro t v' ht
        rcases htm t v' ht with ⟨rfl, rfl⟩ | ⟨rfl, rfl⟩
        · exact Nat.zero_lt_one
        · trivial
      · obtain ⟨r, c, h1, h2⟩ := hin i j x hij
        exact ⟨i, j, r, c, h1, h2, hsc i j r c h1 h2 x hij⟩
      · have hf := hall r (List.mem_of_getElem? h1) c (List.mem_of_getElem? h2)
        cases c <;> first | (cases hf; done) | exact h3.elim | exact h3
  obtain ⟨L, B, hapB, hrel, hset⟩ := hopen
  have h := h B hapB
  rw [fS_eq] at h
  have hN : (fun b => inV b (lab true B0 (.one (.fz rows)))) = (B0 0 0).B := rfl
  rw [hN] at hgt ⊢
  refine calls_of_wp hf hb (wp_mono (vc_ok hT hm _ _ _ h w ⟨(B0 0 0).B, 1, L, fun _ => False⟩ (fun _ => False) _ w ⟨rfl, hgt, fun _ h => h⟩ hrel) fun e a w' ⟨s, ⟨L1, F1, hr⟩, he⟩ => ?_)
  have key : endMF T fn B rows rows' k' s → a.defers = [] ∧ ∃ v, (results fn a.tmps).run P w' = .ok v w' ∧ Ending.returned v = .returned (.int .i64 k') ∧ MkPost w w' (B0 0 0).B ∧ RTV w' (lab true B0 (.one (.fz rows'))) (B0 0 0).u := fun he => by
    unfold endMF at he
    split at he
    · rename_i p n hres
      split at he
      · rename_i X hX
        obtain ⟨⟨hp⟩, ⟨rfl⟩, ⟨rfl⟩, ⟨hlk⟩⟩ := he
        obtain ⟨u, hu, hru⟩ := one_res hT hr hres hp
        obtain ⟨rfl, _⟩ : u = .int .i64 n ∧ _ := hru
        refine ⟨hr.df, _, hu, rfl, ⟨hr.os, hr.tape, hr.output, hr.size, hr.keep, hr.kc⟩, rfl, ?_⟩
        show TR w' (.fz rows') (B0 0 0).u (B0 0 0).B
        have hpin : L1 0 = L 0 := (hr.pin 0 Nat.zero_lt_one).1
        have hv : RC (look s.st) L1 w' F1 (.ref 0 0 rows'.length) (B0 0 0).u := by
          refine ⟨htr.one, fun Y hY => ?_⟩
          rw [hX] at hY
          obtain rfl := Ob.arr.inj (Option.some.inj hY)
          rw [labR_len]
          rcases hset with ⟨rfl, ⟨a0, hu0⟩, _⟩ | ⟨b, st, cap, hu0, hcap, hne, hcs, hlt, hL0, _⟩
          · have hl0 : rows' = [] := List.eq_nil_of_length_eq_zero (by rw [← hlk.1]; rfl)
            subst hl0
            exact ⟨a0, 0, hu0, Nat.le_refl _, .inr ⟨rfl, rfl⟩⟩
          · refine ⟨_, cap, by rw [hu0, hlk.1], by omega, .inl ⟨b, st, by rw [hpin]; exact hL0, by rw [Nat.zero_mul], by rw [← hlk.1]; exact hcap, fun e => hne (List.eq_nil_of_length_eq_zero ?_), fun j hj => hr.kc b j hlt (hcs j (by simpa using hj))⟩⟩
            have := congrArg List.length e
            rw [labR_len] at this
            rw [hlk.1]; simpa using this
        obtain ⟨N, hN1, _, hN2⟩ := tree_of hr hv hX rfl hapB hall'
        have : N = (B0 0 0).B := by
          funext x
          refine propext ?_
          rcases hset with ⟨rfl, _, hno⟩ | ⟨b, st, cap, hu0, hcap, hne, hcs, hlt, hL0, hiff⟩
          · have hl0 : rows' = [] := List.eq_nil_of_length_eq_zero (by rw [← hlk.1]; rfl)
            subst hl0
            rcases hN2 with ⟨_, h2⟩ | ⟨b2, s2, h2, h3⟩
            · exact ⟨fun h => absurd h (h2 x), fun h => absurd h (hno x)⟩
            · exfalso
              rcases hr.ob 0 _ hX with ⟨_, hnone⟩ | ⟨b3, s3, h4, h5, h6, h7⟩
              · rw [h2] at hnone; cases hnone
              · have h8 : ∀ {v : Value} {N : Bk}, TR w' (.fz []) v N → ∀ b, ¬ N b := fun {v N} h => by
                  cases h with
                  | nilz _ _ h => exact h
                  | fz _ _ _ _ _ _ _ h0 => exact absurd rfl h0
                exact h8 hN1 b2 ((h3 b2).2 (.inl rfl))
          · rcases hN2 with ⟨h2, _⟩ | ⟨b2, s2, h2, h3⟩
            · exact absurd (List.eq_nil_of_length_eq_zero (by rw [hlk.1, h2]; rfl)) hne
            · rw [hpin, hL0] at h2
              obtain ⟨rfl, rfl⟩ := Prod.mk.inj (Option.some.inj h2)
              rw [h3, hiff]
              refine or_congr Iff.rfl ⟨fun ⟨i, j, r, c, g1, g2, g3⟩ => ?_, fun ⟨i, j, r, c, g1, g2, g3⟩ => ?_⟩
              · have hi : i < rows.length := by rw [hlk.1]; exact (List.getElem?_eq_some_iff.1 g1).1
                obtain ⟨hl1, hl2⟩ := hlk.2 i rows[i] r (List.getElem?_eq_getElem hi) g1
                have hj : j < rows[i].length := by rw [hl1]; exact (List.getElem?_eq_some_iff.1 g2).1
                exact ⟨i, j, _, _, List.getElem?_eq_getElem hi, List.getElem?_eq_getElem hj, (like_lab (hl2 j _ c (List.getElem?_eq_getElem hj) g2)).2 g3⟩
              · have hi : i < rows'.length := by rw [← hlk.1]; exact (List.getElem?_eq_some_iff.1 g1).1
                obtain ⟨hl1, hl2⟩ := hlk.2 i r rows'[i] g1 (List.getElem?_eq_getElem hi)
                have hj : j < rows'[i].length := by rw [← hl1]; exact (List.getElem?_eq_some_iff.1 g2).1
                exact ⟨i, j, _, _, List.getElem?_eq_getElem hi, List.getElem?_eq_getElem hj, (like_lab (hl2 j c _ g2 (List.getElem?_eq_getElem hj))).1 g3⟩
        rw [← this]; exact hN1
      · exact he.elim
    · exact he.elim
  cases e <;> first | exact key he | exact he.elim

/-- The end of a function that writes what hangs on a struct. -/
def likeS (c c' : MC) : Prop := match c, c' with
  | .sc u, .sc v => u = v
  | .fz _, .fz _ => True
  | _, _ => False
def likeSL : List MC → List MC → Prop
  | [], [] => True
  | c :: cs, d :: ds => likeS c d ∧ likeSL cs ds
  | _, _ => False
theorem likeSL_get : ∀ {cs ds : List MC}, likeSL cs ds → cs.length = ds.length ∧ ∀ (j : Nat) (d : MC), ds[j]? = some d → ∃ c, cs[j]? = some c ∧ likeS c d
  | [], [], _ => ⟨rfl, fun j d hj => by simp at hj⟩
  | c :: cs, d :: ds, h => by
    obtain ⟨h1, h2⟩ := likeSL_get h.2
    refine ⟨by simp [h1], fun j x hj => ?_⟩
    cases j with
    | zero => obtain rfl := Option.some.inj hj; exact ⟨c, rfl, h.1⟩
    | succ j => exact h2 j x hj
  | [], _ :: _, h => h.elim
  | _ :: _, [], h => h.elim
def endSF (T : Tab) (fn : Func) (B : Nat → Tk) (cs cs' : List MC) (k' : Int) (s : S) : Prop :=
  match resL T s fn.results.toList with
  | some (p, [.one (.sc (.int .i64 n))]) => match look s.env 0 with
    | some (.agg X) => Side p ∧ Side (n = k') ∧ Side (X = labRow true B 0 cs') ∧ Side (likeSL cs cs')
    | _ => False
  | _ => False
def endSE (T : Tab) (fn : Func) (B : Nat → Tk) (cs cs' : List MC) (k' : Int) : Exit → S → Prop
  | .normal, s => endSF T fn B cs cs' k' s
  | .ret, s => endSF T fn B cs cs' k' s
  | _, _ => False

/-- A CONTRACT of a function that writes what hangs on a struct. -/
theorem TMark.vcS {f : Nat} {fn : Func} {c : Code} {cs cs' : List MC} {k k' : Int} (hs : (Nat → Tk) → List (Nat × Hint)) (hT : TOk P T) (hm : P.follows .mixedOrders = true) (hf : P.funcs[f]? = some fn) (hn : (fn.name == "runtime.NumGoroutine") = false) (hb : fn.body = some c) (hl : Nat.ble 2 fn.ntmps = true) (hall : cs.all MC.frz = true)
    (h : ∀ B : Nat → Tk, (∀ j j' x, (B j).B x → (B j').B x → j = j') → fS ⟨fn.ntmps, 0, [(0, .agg (labRow true B 0 cs)), (1, .one (.sc (.int .i64 k)))], []⟩ fun s => Mg.vc 0 P T c (hs B) s (endSE T fn B cs cs' k')) : TMark P f (.agg cs) k (.agg cs') k' := by
  refine ⟨⟨fn, hf, hn, by rw [hb]; rfl⟩, ?_⟩
  intro w v B0 hrt hap hgt
  let N : Bk := fun b => inV b (lab true B0 (.agg cs))
  obtain ⟨arr, rfl, hsz1, hrd⟩ : ∃ arr : Array Value, v = .agg arr ∧ arr.size = (labRow true (B0 0) 0 cs).length ∧ ∀ (j : Nat) (c : MC), (labRow true (B0 0) 0 cs)[j]? = some c → ∃ u : Value, arr[j]? = some u ∧ RT w c u := hrt
  have htm : ∀ t v', look [(0, MV.agg (labRow true (B0 0) 0 cs)), (1, .one (.sc (.int .i64 k)))] t = some v' → (t = 0 ∧ v' = .agg (labRow true (B0 0) 0 cs)) ∨ (t = 1 ∧ v' = .one (.sc (.int .i64 k))) := fun t v' ht => by
    simp only [look_cons, look_nil] at ht
    split at ht
    · rename_i e; exact .inl ⟨e, (Option.some.inj ht).symm⟩
    · split at ht
      · rename_i e; exact .inr ⟨e, (Option.some.inj ht).symm⟩
      · cases ht
  have e0 : (tmps0 fn.ntmps #[.agg arr, .int .i64 k]).tmps.getD 0 undef = .agg arr := tmps0_get rfl
  have e1 : (tmps0 fn.ntmps #[.agg arr, .int .i64 k]).tmps.getD 1 undef = .int .i64 k := tmps0_get rfl
  have hsz : (tmps0 fn.ntmps #[.agg arr, .int .i64 k]).tmps.size = fn.ntmps := by have := Nat.le_of_ble_eq_true hl; simp [tmps0]; omega
  have hlt : ∀ b, N b → b < w.heap.size := by
    rintro b ⟨c, hc, hb⟩
    obtain ⟨j, hj⟩ := List.getElem?_of_mem hc
    obtain ⟨u, _, hr⟩ := hrd j c hj
    rw [labRow_get] at hj
    obtain ⟨d, hd, rfl⟩ := Option.map_eq_some_iff.1 hj
    have hf := List.all_eq_true.1 hall d (List.mem_of_getElem? hd)
    cases d <;> first | (cases hf; done) | exact hb.elim | exact hr.2.lt b hb
  have hrel : Rl w ⟨N, 0, fun _ => none, fun _ => False⟩ (fun _ => False) (fun _ => none) ⟨N, fun _ => False⟩ ⟨fn.ntmps, 0, [(0, .agg (labRow true (B0 0) 0 cs)), (1, .one (.sc (.int .i64 k)))], []⟩ (tmps0 fn.ntmps #[.agg arr, .int .i64 k]) w := by
    refine ⟨rfl, rfl, rfl, Nat.le_refl _, fun _ _ _ => rfl, fun _ _ _ h => h, fun i hi => absurd hi (Nat.not_lt_zero i), rfl, fun b hb => .inr (.inl hb), fun b hb => hb.elim (hlt b) (fun h => h.elim), fun id o ho => by simp at ho, fun id b t h1 => by simp at h1, fun i j b t u h1 => by simp at h1, hsz, ?_, fun id o ho => by simp at ho, ?_, rfl⟩
    · intro t v' ht
      rcases htm t v' ht with ⟨rfl, rfl⟩ | ⟨rfl, rfl⟩
      · rw [e0]
        refine ⟨arr, rfl, hsz1, fun j c hj => ?_⟩
        obtain ⟨u, hu, hr⟩ := hrd j c hj
        exact ⟨u, hu, hr.rc fun b hb => ⟨⟨c, List.mem_of_getElem? hj, hb⟩, fun h => h⟩⟩
      · rw [e1]; exact ⟨rfl, rfl⟩
    · intro t v' ht
      rcases htm t v' ht with ⟨rfl, rfl⟩ | ⟨rfl, rfl⟩
      · intro c hc
        obtain ⟨j, hj⟩ := List.getElem?_of_mem hc
        obtain ⟨u, _, hr⟩ := hrd j c hj
        exact hr.bd
      · trivial
  have h := h (B0 0) (fun j j' x h1 h2 => (hap 0 j 0 j' x h1 h2).2)
  rw [fS_eq] at h
  refine calls_of_wp hf hb (wp_mono (vc_ok hT hm _ _ _ h w ⟨N, 0, fun _ => none, fun _ => False⟩ (fun _ => False) _ w ⟨rfl, hgt, fun _ h => h⟩ ⟨_, _, hrel⟩) fun e a w' ⟨s, ⟨L1, F1, hr⟩, he⟩ => ?_)
  have key : endSF T fn (B0 0) cs cs' k' s → a.defers = [] ∧ ∃ v, (results fn a.tmps).run P w' = .ok v w' ∧ Ending.returned v = .returned (.int .i64 k') ∧ MkPost w w' N ∧ RTV w' (lab true B0 (.agg cs')) (.agg arr) := fun he => by
    unfold endSF at he
    split at he
    · rename_i p n hres
      split at he
      · rename_i X hX
        obtain ⟨⟨hp⟩, ⟨rfl⟩, ⟨rfl⟩, ⟨hlk⟩⟩ := he
        obtain ⟨u, hu, hru⟩ := one_res hT hr hres hp
        obtain ⟨rfl, _⟩ : u = .int .i64 n ∧ _ := hru
        obtain ⟨arr', h1, h2, h3⟩ : ∃ arr' : Array Value, a.tmps.getD 0 undef = .agg arr' ∧ Cells (look s.st) L1 w' F1 (labRow true (B0 0) 0 cs') arr' := hr.env 0 _ hX
        obtain ⟨hl1, hl2⟩ := likeSL_get hlk
        refine ⟨hr.df, _, hu, rfl, ⟨hr.os, hr.tape, hr.output, hr.size, hr.keep, hr.kc⟩, arr, rfl, by rw [hsz1, labRow_len, labRow_len, hl1], fun j c' hj => ?_⟩
        obtain ⟨u', _, hru'⟩ := h3 j c' hj
        rw [labRow_get] at hj
        obtain ⟨d', hd', rfl⟩ := Option.map_eq_some_iff.1 hj
        obtain ⟨d, hd, hdd⟩ := hl2 j d' hd'
        obtain ⟨u0, hu0, hr0⟩ := hrd j _ (by rw [labRow_get, hd]; rfl)
        refine ⟨u0, hu0, ?_⟩
        cases d <;> cases d' <;> first | exact hdd.elim | skip
        · obtain rfl : _ = _ := hdd
          exact hr0
        · have g1 := hru'.2.2
          rw [hru'.1] at g1
          exact ⟨hr0.1, by rw [hr0.1]; exact g1⟩
      · exact he.elim
    · exact he.elim
  cases e <;> first | exact key he | exact he.elim

end Mg

/- The abstract state logic, part 41: states said anew; rows that are written one cell at a time. No condition. -/
namespace Mg
open Go Go.RowKit
set_option linter.unusedVariables false

variable {P : Program} {T : Tab}

/-- A state, said anew. -/
theorem W.sub {k : Nat} {c : Code} {s : S} {Q : Exit → S → Prop} (s' : S) (bl : List (Nat × Nat)) (hsub : subC k bl s' s) (h : W k P c s' Q) : W k P c s Q :=
  W.ren (subC_ok hsub) (subC_pin hsub) h

section
variable {X : List (List MC)} {i : Nat} {r r' : List MC}
theorem setGet (h : i < X.length) : (X.set i r).getD (0 + i) [] = r := by
  rw [Nat.zero_add, List.getD_eq_getElem?_getD, List.getElem?_set_self h]; rfl
/-- A store into the row that is being written. -/
theorem sSetN {k : Nat} {off : Nat} {cs : List MC} (h : i < X.length) (hk : k = i) (hr : putAt r off cs = r') : Side (X.set i r' = (X.set i r).set (0 + k) (putAt ((X.set i r).getD (0 + k) []) off cs)) := by
  subst hk
  rw [setGet h, Nat.zero_add, List.set_set, hr]; exact ⟨rfl⟩
theorem sSet0 (h : X[i]? = some r) : Side (X.set i r = X) := ⟨by
  obtain ⟨hl, rfl⟩ := List.getElem?_eq_some_iff.1 h
  exact List.set_getElem_self hl⟩
theorem sIxN {k : Int} {n m : Nat} (h : i < X.length) (hk : k = i) (hn : n = X.length) (hl : r.length = m) : Side ((0 ≤ k ∧ k < n) ∧ 0 + k.toNat < (X.set i r).length ∧ ((X.set i r).getD (0 + k.toNat) []).length = m) := by
  subst hk
  rw [Int.toNat_natCast, setGet h, List.length_set]
  exact ⟨⟨by omega, by omega⟩, by omega, hl⟩
theorem sStN {k off n z : Nat} (h : i < X.length) (hk : k = i) (hb : Nat.ble (off + n) r.length = true) (hz : n = z) : Side ((0 + k < (X.set i r).length ∧ off + n ≤ ((X.set i r).getD (0 + k) []).length) ∧ n = z) := by
  subst hk
  rw [setGet h, List.length_set]
  exact ⟨⟨by omega, Nat.le_of_ble_eq_true hb⟩, hz⟩
theorem sLdN {k off n : Nat} {v v' : MV} {f : List MC → MV} (h : i < X.length) (hk : k = i) (hb : n ≤ (r.drop off).length) (hv : f ((r.drop off).take n) = v') (e : v = f (((X.set i r).getD (0 + k) []).drop off |>.take n)) : Side (n ≤ (List.drop off ((X.set i r).getD (0 + k) [])).length ∧ v = v') := by
  subst hk
  rw [setGet h] at e ⊢
  exact ⟨hb, e.trans hv⟩
theorem sFlatN (hX : ∀ r ∈ X, ∀ c ∈ r, c.flat = true) (hr : r.all MC.flat = true) : Side (∀ q ∈ X.set i r, ∀ c ∈ q, c.flat = true) := ⟨fun q hq c hc => by
  rcases List.mem_or_eq_of_mem_set hq with hq | rfl
  · exact hX q hq c hc
  · exact List.all_eq_true.1 hr c hc⟩
end

theorem lab_flat {o : Bool} {B : Nat → Nat → Tk} {rows : List (List MC)} (h : AllF rows) : ∀ r ∈ labR o B 0 rows, ∀ c ∈ r, c.flat = true := fun r hr c hc => by
  obtain ⟨i, hi⟩ := List.getElem?_of_mem hr
  rw [labR_get] at hi
  obtain ⟨r0, h1, rfl⟩ := Option.map_eq_some_iff.1 hi
  obtain ⟨j, hj⟩ := List.getElem?_of_mem hc
  rw [labRow_get] at hj
  obtain ⟨c0, h2, rfl⟩ := Option.map_eq_some_iff.1 hj
  have := h r0 (List.mem_of_getElem? h1) c0 (List.mem_of_getElem? h2)
  cases c0 <;> first | (cases this; done) | rfl
theorem labR_set {o : Bool} {B : Nat → Nat → Tk} : ∀ (rows : List (List MC)) (k i : Nat) (r : List MC), (labR o B k rows).set i (labRow o (B (k + i)) 0 r) = labR o B k (rows.set i r)
  | [], k, i, r => rfl
  | x :: rows, k, 0, r => rfl
  | x :: rows, k, i + 1, r => by
    have := labR_set (o := o) (B := B) rows (k + 1) i r
    simp only [labR, List.set_cons_succ]
    rw [← this, show k + 1 + i = k + (i + 1) by omega]

/- ------------------------------------------------ calls that write the row that is being written -/
theorem apart_one {c : MC} : Apart (tokOf (.one c)) := fun i j i' j' x h1 h2 => by
  have key : ∀ i j, (tokOf (.one c) i j).B x → i = 0 ∧ j = 0 := fun i j h => by
    cases i with
    | succ i => exact h.elim
    | zero =>
      cases j with
      | zero => exact ⟨rfl, rfl⟩
      | succ j => exact (by simp [tokOf, cellsV, tokC] at h : False).elim
  have h3 := key i j h1; have h4 := key i' j' h2
  exact ⟨h3.1.trans h4.1.symm, h3.2.trans h4.2.symm⟩

theorem upR_set {N : Bk} {ys : List MC} {X : List (List MC)} {i : Nat} {r r' : List MC} (h : i < X.length) (hX : ∀ i' q, i' ≠ i → X[i']? = some q → ∀ c ∈ q, UpC N ys c c) (hr : UpL N ys r r') :
    UpR N ys (X.set i r) ((X.set i r).set i r') := by
  rw [List.set_set]
  refine ⟨by simp, fun i' q hq => ?_⟩
  obtain ⟨h1, h2⟩ := UpL.get hr
  by_cases e : i' = i
  · subst e
    rw [List.getElem?_set_self h] at hq
    obtain rfl := Option.some.inj hq
    exact ⟨r, List.getElem?_set_self h, h1, h2⟩
  · rw [List.getElem?_set_ne (Ne.symm e)] at hq ⊢
    exact ⟨q, hq, rfl, fun j d hj => ⟨d, hj, hX i' q e hq d (List.mem_of_getElem? hj)⟩⟩
theorem upC_lab {ys : List MC} {B : Nat → Nat → Tk} (hB : Apart B) {rows : List (List MC)} (hall : AllF rows) {i j i' : Nat} {q : List MC} (hne : i' ≠ i) (hq : (labR true B 0 rows)[i']? = some q) : ∀ c ∈ q, UpC (B i j).B ys c c := fun c hc => by
  rw [labR_get, Nat.zero_add] at hq
  obtain ⟨r0, h1, rfl⟩ := Option.map_eq_some_iff.1 hq
  obtain ⟨j', hj⟩ := List.getElem?_of_mem hc
  rw [labRow_get, Nat.zero_add] at hj
  obtain ⟨c0, h2, rfl⟩ := Option.map_eq_some_iff.1 hj
  have := hall r0 (List.mem_of_getElem? h1) c0 (List.mem_of_getElem? h2)
  cases c0 <;> first | (cases this; done) | skip
  · exact .sc _
  · exact .tr _ _ _ _ fun x h3 h4 => hne (hB i' j' i j x h3 h4).1
/-- The objects behind a call that writes cell j of row i. -/
theorem sUpN {B : Nat → Nat → Tk} {ys : List MC} {rows : List (List MC)} {i j k : Nat} {N : Bk} {r r' : List MC} {c : MC} (hB : Apart B) (hN : N = (B i j).B) (hall : AllF rows) (h : i < rows.length) (hk : k = i) (hc : r.set j c = r') (hr : UpL N ys r r') :
    Side (UpR N ys ((labR true B 0 rows).set i r) (((labR true B 0 rows).set i r).set k ((((labR true B 0 rows).set i r).getD k []).set j c))) := by
  subst hN hk hc
  have hl : k < (labR true B 0 rows).length := by rw [labR_len]; exact h
  have e : ((labR true B 0 rows).set k r).getD k [] = r := by have := setGet (r := r) hl; rwa [Nat.zero_add] at this
  rw [e]
  exact ⟨upR_set hl (fun i' q hne hq => upC_lab hB hall hne hq) hr⟩
theorem sSetM {X : List (List MC)} {i j k : Nat} {r r' : List MC} {c : MC} (h : i < X.length) (hk : k = i) (hr : r.set j c = r') : Side (X.set i r' = (X.set i r).set k (((X.set i r).getD k []).set j c)) := by
  subst hk hr
  have e : (X.set k r).getD k [] = r := by have := setGet (r := r) h; rwa [Nat.zero_add] at this
  rw [e, List.set_set]; exact ⟨rfl⟩
end Mg

/- The abstract state logic, part 47: ways that meet again. No condition. -/
namespace Mg
open Go Go.RowKit
set_option linter.unusedVariables false
variable {P : Program} {T : Tab}
/-- Behind the first piece all ways go on from one family of states. -/
theorem W.cut {k : Nat} {D : Type} (hs : List (Nat × Hint)) (hT : TOk P T) (hm : P.follows .mixedOrders = true) {x y : Code} {s : S} {Q : Exit → S → Prop} (st : D → S) (inv : D → Prop)
    (h1 : vc k P T x hs s (thn (fun s' => ∃ (d : D) (bl : List (Nat × Nat)), inv d ∧ subC k bl (st d) s') Q)) (h2 : ∀ d, inv d → W k P y (st d) Q) : W k P (.seq x y) s Q := by
  refine W.seq fun K hK => ?_
  refine (vc_ok hT hm x s _ h1).mono fun e s' h => ?_
  cases e with
  | normal =>
    obtain ⟨d, bl, hd, hsb⟩ := h
    exact hK s' (W.ren (subC_ok hsb) (subC_pin hsb) (h2 d hd))
  | _ => exact h
/-- The same behind the first two pieces. -/
theorem W.cut2 {k : Nat} {D : Type} (hs : List (Nat × Hint)) (hT : TOk P T) (hm : P.follows .mixedOrders = true) {x y z : Code} {s : S} {Q : Exit → S → Prop} (st : D → S) (inv : D → Prop)
    (h1 : vc k P T x hs s (thn (fun s1 => vc k P T y hs s1 (thn (fun s' => ∃ (d : D) (bl : List (Nat × Nat)), inv d ∧ subC k bl (st d) s') Q)) Q)) (h2 : ∀ d, inv d → W k P z (st d) Q) : W k P (.seq x (.seq y z)) s Q := by
  refine W.seq fun K hK => ?_
  refine (vc_ok hT hm x s _ h1).mono fun e s' h => ?_
  cases e with
  | normal => exact hK s' (W.cut hs hT hm st inv h h2)
  | _ => exact h
end Mg

/- The abstract state logic, part 42: a list of read cells in a slot is frozen. No condition. -/
namespace Mg
open Go Go.RowKit
set_option linter.unusedVariables false
variable {P : Program} {T : Tab}

theorem Rl.slot {w0 : World} {wr : Wr} {A : Nat → Prop} {L : Lay} {F : FF} {s : S} {a : Act} {w : World} (h : Rl w0 wr A L F s a w) {t : Nat} {v : MV} (hv : RV (look s.st) L w F v (a.tmps.getD t undef)) (hb : v.bd s.n) : Rl w0 wr A L F { s with env := (t, v) :: s.env } a w := by
  refine ⟨h.os, h.tape, h.output, h.size, h.keep, h.kc, h.pin, h.fa, h.fn, h.fsz, h.ob, h.own, h.inj, h.sz, fun t' v' hv' => ?_, h.bst, fun t' v' hv' => ?_, h.df⟩
  · rw [show look ({ s with env := (t, v) :: s.env } : S).env t' = look ((t, v) :: s.env) t' from rfl, look_cons] at hv'
    by_cases e : t = t'
    · subst e; rw [if_pos rfl] at hv'; obtain rfl := Option.some.inj hv'; exact hv
    · rw [if_neg (fun hh => e hh.symm)] at hv'; exact h.env t' v' hv'
  · rw [show look ({ s with env := (t, v) :: s.env } : S).env t' = look ((t, v) :: s.env) t' from rfl, look_cons] at hv'
    by_cases e : t = t'
    · subst e; rw [if_pos rfl] at hv'; obtain rfl := Option.some.inj hv'; exact hb
    · rw [if_neg (fun hh => e hh.symm)] at hv'; exact h.ben t' v' hv'
def S.frzE (s : S) (t : Nat) : Option (Nat × List (List MC) × S) := match look s.env t with
  | some (.one (.ref id off len)) => match look s.st id with
    | some (.arr rows) => some (id, rows, { s with env := (t, .one (.ag (((rows.drop off).take len).map fun r => r.map MC.unA))) :: s.env, st := del s.st id })
    | _ => none
  | _ => none
theorem W.frzE {k : Nat} {c : Code} {s s' : S} {Q : Exit → S → Prop} (j : Nat) {id : Nat} {rows : List (List MC)} (hs : s.frzE j = some (id, rows, s')) (hall : AllA rows) (h : fS s' fun s' => W k P c s' Q) : W k P c s Q := fun w0 wr A a w hk ⟨L, F, hr⟩ => by
  rw [fS_eq] at h
  unfold S.frzE at hs
  split at hs
  case h_2 => cases hs
  rename_i id0 off len hj
  split at hs
  case h_2 => cases hs
  rename_i rows0 hid
  have hs1 := Prod.mk.inj (Option.some.inj hs)
  have hs2 := Prod.mk.inj hs1.2
  obtain rfl := hs1.1
  obtain rfl := hs2.1
  obtain rfl := hs2.2
  generalize hu0 : a.tmps.getD j undef = u0
  have hru0 : RC (look s.st) L w F (.ref id0 off len) u0 := hu0 ▸ hr.env j _ hj
  obtain ⟨bb, cap, hv, hle, _⟩ := hru0.2 rows0 hid
  have hlen : ((((rows0.drop off).take len).map fun r => r.map MC.unA)).length = len := by simp; omega
  -- freeze, then read the cell otherwise
  have key : ∀ F2 : FF, (∀ x, F.all x → F2.all x) → (∀ bk t, L id0 = some (bk, t) → F2.all bk) → RF w F2.all (.fz (((rows0.drop off).take len).map fun r => r.map MC.unA)) u0 := fun F2 hF hbk => by
    by_cases hn : len = 0
    · subst hn; rw [hv]; simp; exact .nilz _ _
    · obtain ⟨bk, st, cap', hL, hv', _, hcap, _, _, hsz, hw⟩ := ref_row hr hru0 hid hn
      rw [hv']
      have := RF.mk (w := w) (F := F2.all) (rows := ((rows0.drop off).take len).map fun r => r.map MC.unA) (a := some ⟨bk, off * st, none⟩) (cap := cap') (by omega) (fun _ => ⟨bk, off * st, st, rfl, hbk bk st hL, fun r hr' => by
          obtain ⟨r0, hr0, rfl⟩ := List.mem_map.1 hr'
          rw [List.length_map]
          exact hsz r0 (List.mem_of_mem_drop (List.mem_of_mem_take hr0)), fun i j' r c hi hj' => by
        rw [List.getElem?_map] at hi
        obtain ⟨r0, hi0, rfl⟩ := Option.map_eq_some_iff.1 hi
        rw [List.getElem?_map] at hj'
        obtain ⟨c0, hc0, rfl⟩ := Option.map_eq_some_iff.1 hj'
        have hf := hall.h r0 (List.mem_of_mem_drop (List.mem_of_mem_take (List.mem_of_getElem? hi0))) c0 (List.mem_of_getElem? hc0)
        rw [List.getElem?_take] at hi0
        split at hi0
        · rw [List.getElem?_drop] at hi0
          obtain ⟨u, hu, hru⟩ := hw _ r0 hi0 j' c0 hc0
          refine ⟨u, ?_, RF.mono (fun _ _ => rfl) hF (hru.unA hf)⟩
          rw [← hu]; congr 2; rw [Nat.add_mul]; omega
        · cases hi0⟩)
      rwa [hlen] at this
  cases hL : L id0 with
  | some q =>
    obtain ⟨bk, t⟩ := q
    have hR2 := hr.freeze hid hL
    refine h w0 wr A a w hk ⟨L, _, hR2.slot (t := j) (v := .one (.ag (((rows0.drop off).take len).map fun r => r.map MC.unA))) ?_ trivial⟩
    rw [hu0]
    refine key _ (fun x hx => hx.imp Or.inl id) (fun bk2 t3 h3 => ?_)
    rw [hL] at h3
    obtain ⟨rfl, rfl⟩ := Prod.mk.inj (Option.some.inj h3)
    exact .inl (.inr rfl)
  | none =>
    have hsub : Sub { s with st := del s.st id0 } s := by
      refine ⟨rfl, fun t v hv => ⟨hv, hr.ben t v hv⟩, fun i o ho => ?_⟩
      simp only [look_del] at ho
      split at ho
      · cases ho
      · exact ⟨ho, hr.bst i o ho⟩
    · have hR2 := hr.weaken hsub (fun i hi => (hr.pin i hi).2)
      refine h w0 wr A a w hk ⟨L, _, hR2.slot (t := j) (v := .one (.ag (((rows0.drop off).take len).map fun r => r.map MC.unA))) ?_ trivial⟩
      rw [hu0]
      exact key _ (fun x hx => hx) (fun bk2 t3 h3 => by rw [hL] at h3; cases h3)
end Mg

/- The abstract state logic, part 43: a frozen reading is told with its blocks. No condition. -/
namespace Mg
open Go Go.RowKit
set_option linter.unusedVariables false
variable {P : Program} {T : Tab}

theorem RC.tell {st : Sto} {L : Lay} {w : World} {F : FF} {rows : List (List MC)} {v : Value} (h : RC st L w F (.fz rows) v) : RC st L w F (.tr false F.n v rows) v := by
  have h1 : RF w F.n (.fz rows) v := h
  have h2 := RF.rt h1
  exact ⟨rfl, fun b hb => ⟨.inl hb, fun e => nomatch e⟩, h2.2⟩
def S.tellB (s : S) (b j : Nat) : Option (List (List MC) × (Bk → Value → S)) := match look s.st b with
  | some (.box cs) => match cs[j]? with
    | some (.fz rows) => some (rows, fun B u => s.set b (.box (cs.set j (.tr false B u rows))))
    | _ => none
  | _ => none
theorem W.tellB {k : Nat} {c : Code} {s : S} {Q : Exit → S → Prop} (b j : Nat) {rows : List (List MC)} {g : Bk → Value → S} (hs : s.tellB b j = some (rows, g)) (h : ∀ B u, fS (g B u) fun s' => W k P c s' Q) : W k P c s Q := fun w0 wr A a w hk ⟨L, F, hr⟩ => by
  unfold S.tellB at hs
  split at hs
  case h_2 => cases hs
  rename_i cs hb
  split at hs
  case h_2 => cases hs
  rename_i rows0 hj
  obtain ⟨rfl, rfl⟩ := Prod.mk.inj (Option.some.inj hs)
  obtain ⟨kb, tb, hLb, _, hcb⟩ := hr.ob b _ hb
  obtain ⟨u0, hu0, hru0⟩ := hcb j _ hj
  have h := h F.n u0
  rw [fS_eq] at h
  refine h w0 wr A a w hk ⟨L, F, hr.cell (j := j) (c := .tr false F.n u0 rows0) hb trivial (fun k t2 hk2 u hu => ?_)⟩
  rw [hLb] at hk2
  obtain ⟨rfl, rfl⟩ := Prod.mk.inj (Option.some.inj hk2)
  rw [hu0] at hu
  obtain rfl := Option.some.inj hu
  exact hru0.tell
def S.tellE (s : S) (t : Nat) : Option (List (List MC) × (Bk → Value → S)) := match look s.env t with
  | some (.one (.fz rows)) => some (rows, fun B u => { s with env := (t, .one (.tr false B u rows)) :: s.env })
  | _ => none
theorem W.tellE {k : Nat} {c : Code} {s : S} {Q : Exit → S → Prop} (t : Nat) {rows : List (List MC)} {g : Bk → Value → S} (hs : s.tellE t = some (rows, g)) (h : ∀ B u, fS (g B u) fun s' => W k P c s' Q) : W k P c s Q := fun w0 wr A a w hk ⟨L, F, hr⟩ => by
  unfold S.tellE at hs
  split at hs
  case h_2 => cases hs
  rename_i rows0 hj
  obtain ⟨rfl, rfl⟩ := Prod.mk.inj (Option.some.inj hs)
  have hru0 : RC (look s.st) L w F (.fz rows0) (a.tmps.getD t undef) := hr.env t _ hj
  have h := h F.n (a.tmps.getD t undef)
  rw [fS_eq] at h
  exact h w0 wr A a w hk ⟨L, F, hr.slot (t := t) (v := .one (.tr false F.n (a.tmps.getD t undef) rows0)) hru0.tell trivial⟩
end Mg

/- The abstract state logic, part 23: data out of what was read. No condition. -/
namespace Mg
open Go Go.RowKit
set_option linter.unusedVariables false

variable {T : Tab} {n t : Nat} {cs : List MC} {i : TI}

theorem fit_int {k : IntKind} (h : fit T n t cs) (ht : T t = some i) (hk : i.k = .int k) : ∃ m, cs = [.sc (.int k m)] ∧ k.min ≤ m ∧ m ≤ k.max := by
  cases n with
  | zero => exact h.elim
  | succ n => simpa only [fit, ht, hk] using h
theorem fit_bool (h : fit T n t cs) (ht : T t = some i) (hk : i.k = .bool) : ∃ b, cs = [.sc (.bool b)] := by
  cases n with
  | zero => exact h.elim
  | succ n => simpa only [fit, ht, hk] using h
theorem fit_str (h : fit T n t cs) (ht : T t = some i) (hk : i.k = .str) : ∃ s : ByteArray, cs = [.sc (.string s)] ∧ s.size ≤ maxLen := by
  cases n with
  | zero => exact h.elim
  | succ n => simpa only [fit, ht, hk] using h
theorem fit_slice {e : Nat} (h : fit T n t cs) (ht : T t = some i) (hk : i.k = .slice e) : ∃ rows, cs = [.fz rows] ∧ rows.length ≤ maxLen ∧ ∀ r ∈ rows, ∃ n, fit T n e r := by
  cases n with
  | zero => exact h.elim
  | succ n =>
    simp only [fit, ht, hk] at h
    obtain ⟨rows, h1, h2, h3⟩ := h
    exact ⟨rows, h1, h2, fun r hr => ⟨n, h3 r hr⟩⟩
theorem fit_struct {l : List (Nat × Nat)} (h : fit T n t cs) (ht : T t = some i) (hk : i.k = .struct l) : ∃ n, fitL (fit T n) (l.map (·.2)) cs := by
  cases n with
  | zero => exact h.elim
  | succ n => exact ⟨n, by simpa only [fit, ht, hk] using h⟩
theorem fit_arr {m e : Nat} (h : fit T n t cs) (ht : T t = some i) (hk : i.k = .arr m e) : ∃ n, fitL (fit T n) (List.replicate m e) cs := by
  cases n with
  | zero => exact h.elim
  | succ n => exact ⟨n, by simpa only [fit, ht, hk] using h⟩
theorem rows_data {α : Type} {c : α → List MC} {p : α → Prop} : ∀ {rows : List (List MC)}, (∀ r ∈ rows, ∃ x, r = c x ∧ p x) → ∃ xs : List α, rows = xs.map c ∧ ∀ x ∈ xs, p x
  | [], _ => ⟨[], rfl, fun x hx => by cases hx⟩
  | r :: rs, h => by
    obtain ⟨x, hx, hp⟩ := h r List.mem_cons_self
    obtain ⟨xs, hxs, hps⟩ := rows_data fun r hr => h r (List.mem_cons_of_mem _ hr)
    exact ⟨x :: xs, by simp [hx, hxs], fun y hy => by
      rcases List.mem_cons.1 hy with rfl | hy
      · exact hp
      · exact hps y hy⟩

/-- A result that is one scalar. -/
theorem OV_sc {w : World} {F : Nat → Prop} {u v : Value} {bs : List Nat} (h : OV w F (.one (.sc u)) v bs) : v = u := by
  have h : OC w F [.sc u] [v] bs := h
  cases h with
  | fz h _ => cases h; rfl

end Mg

/- The seat's types. No condition. -/
namespace Mg
open Go Go.RowKit

def tyL : List (Nat × TI) := [
  (3, ⟨1, 8, .int .i64, [.int .i64]⟩),
  (4, ⟨1, 1, .bool, [.bool]⟩),
  (5, ⟨1, 1, .int .u8, [.int .u8]⟩),
  (9, ⟨1, 16, .str, [.str]⟩),
  (12, ⟨1, 8, .int .u64, [.int .u64]⟩),
  (22, ⟨1, 24, .slice 120, [.nil]⟩),
  (23, ⟨2, 32, .struct [(0, 3), (1, 22)], [.int .i64, .nil]⟩),
  (24, ⟨2, 32, .struct [(0, 3), (1, 22)], [.int .i64, .nil]⟩),
  (25, ⟨1, 24, .slice 34, [.nil]⟩),
  (26, ⟨1, 24, .slice 4, [.nil]⟩),
  (27, ⟨2, 16, .struct [(0, 3), (1, 3)], [.int .i64, .int .i64]⟩),
  (28, ⟨2, 16, .struct [(0, 3), (1, 3)], [.int .i64, .int .i64]⟩),
  (29, ⟨1, 24, .slice 190, [.nil]⟩),
  (30, ⟨1, 24, .slice 192, [.nil]⟩),
  (31, ⟨4, 64, .struct [(0, 29), (1, 30), (2, 3), (3, 3)], [.nil, .nil, .int .i64, .int .i64]⟩),
  (32, ⟨4, 64, .struct [(0, 29), (1, 30), (2, 3), (3, 3)], [.nil, .nil, .int .i64, .int .i64]⟩),
  (33, ⟨7, 88, .struct [(0, 4), (1, 28), (3, 32)], [.bool, .int .i64, .int .i64, .nil, .nil, .int .i64, .int .i64]⟩),
  (34, ⟨7, 88, .struct [(0, 4), (1, 28), (3, 32)], [.bool, .int .i64, .int .i64, .nil, .nil, .int .i64, .int .i64]⟩),
  (35, ⟨1, 24, .slice 136, [.nil]⟩),
  (36, ⟨27, 392, .struct [(0, 3), (1, 24), (3, 25), (4, 3), (5, 3), (6, 3), (7, 26), (8, 22), (9, 34), (16, 26), (17, 4), (18, 35), (19, 34), (26, 25)], [.int .i64, .int .i64, .nil, .nil, .int .i64, .int .i64, .int .i64, .nil, .nil, .bool, .int .i64, .int .i64, .nil, .nil, .int .i64, .int .i64, .nil, .bool, .nil, .bool, .int .i64, .int .i64, .nil, .nil, .int .i64, .int .i64, .nil]⟩),
  (37, ⟨27, 392, .struct [(0, 3), (1, 24), (3, 25), (4, 3), (5, 3), (6, 3), (7, 26), (8, 22), (9, 34), (16, 26), (17, 4), (18, 35), (19, 34), (26, 25)], [.int .i64, .int .i64, .nil, .nil, .int .i64, .int .i64, .int .i64, .nil, .nil, .bool, .int .i64, .int .i64, .nil, .nil, .int .i64, .int .i64, .nil, .bool, .nil, .bool, .int .i64, .int .i64, .nil, .nil, .int .i64, .int .i64, .nil]⟩),
  (39, ⟨1, 24, .slice 129, [.nil]⟩),
  (40, ⟨2, 32, .struct [(0, 3), (1, 39)], [.int .i64, .nil]⟩),
  (41, ⟨2, 32, .struct [(0, 3), (1, 39)], [.int .i64, .nil]⟩),
  (42, ⟨1, 24, .slice 49, [.nil]⟩),
  (43, ⟨2, 16, .struct [(0, 3), (1, 3)], [.int .i64, .int .i64]⟩),
  (44, ⟨1, 24, .slice 166, [.nil]⟩),
  (45, ⟨1, 24, .slice 168, [.nil]⟩),
  (46, ⟨4, 64, .struct [(0, 44), (1, 45), (2, 3), (3, 3)], [.nil, .nil, .int .i64, .int .i64]⟩),
  (47, ⟨4, 64, .struct [(0, 44), (1, 45), (2, 3), (3, 3)], [.nil, .nil, .int .i64, .int .i64]⟩),
  (48, ⟨7, 88, .struct [(0, 4), (1, 43), (3, 47)], [.bool, .int .i64, .int .i64, .nil, .nil, .int .i64, .int .i64]⟩),
  (49, ⟨7, 88, .struct [(0, 4), (1, 43), (3, 47)], [.bool, .int .i64, .int .i64, .nil, .nil, .int .i64, .int .i64]⟩),
  (50, ⟨1, 24, .slice 134, [.nil]⟩),
  (51, ⟨27, 392, .struct [(0, 3), (1, 41), (3, 42), (4, 3), (5, 3), (6, 3), (7, 26), (8, 39), (9, 49), (16, 26), (17, 4), (18, 50), (19, 49), (26, 42)], [.int .i64, .int .i64, .nil, .nil, .int .i64, .int .i64, .int .i64, .nil, .nil, .bool, .int .i64, .int .i64, .nil, .nil, .int .i64, .int .i64, .nil, .bool, .nil, .bool, .int .i64, .int .i64, .nil, .nil, .int .i64, .int .i64, .nil]⟩),
  (52, ⟨27, 392, .struct [(0, 3), (1, 41), (3, 42), (4, 3), (5, 3), (6, 3), (7, 26), (8, 39), (9, 49), (16, 26), (17, 4), (18, 50), (19, 49), (26, 42)], [.int .i64, .int .i64, .nil, .nil, .int .i64, .int .i64, .int .i64, .nil, .nil, .bool, .int .i64, .int .i64, .nil, .nil, .int .i64, .int .i64, .nil, .bool, .nil, .bool, .int .i64, .int .i64, .nil, .nil, .int .i64, .int .i64, .nil]⟩),
  (58, ⟨1, 24, .slice 153, [.nil]⟩),
  (59, ⟨1, 24, .slice 156, [.nil]⟩),
  (60, ⟨3, 56, .struct [(0, 3), (1, 58), (2, 59)], [.int .i64, .nil, .nil]⟩),
  (61, ⟨3, 56, .struct [(0, 3), (1, 58), (2, 59)], [.int .i64, .nil, .nil]⟩),
  (65, ⟨1, 24, .slice 105, [.nil]⟩),
  (105, ⟨13, 152, .struct [(0, 3), (1, 3), (2, 3), (3, 3), (4, 3), (5, 49), (12, 39)], [.int .i64, .int .i64, .int .i64, .int .i64, .int .i64, .bool, .int .i64, .int .i64, .nil, .nil, .int .i64, .int .i64, .nil]⟩),
  (108, ⟨1, 24, .slice 164, [.nil]⟩),
  (109, ⟨29, 440, .struct [(0, 52), (27, 65), (28, 108)], [.int .i64, .int .i64, .nil, .nil, .int .i64, .int .i64, .int .i64, .nil, .nil, .bool, .int .i64, .int .i64, .nil, .nil, .int .i64, .int .i64, .nil, .bool, .nil, .bool, .int .i64, .int .i64, .nil, .nil, .int .i64, .int .i64, .nil, .nil, .nil]⟩),
  (110, ⟨29, 440, .struct [(0, 52), (27, 65), (28, 108)], [.int .i64, .int .i64, .nil, .nil, .int .i64, .int .i64, .int .i64, .nil, .nil, .bool, .int .i64, .int .i64, .nil, .nil, .int .i64, .int .i64, .nil, .bool, .nil, .bool, .int .i64, .int .i64, .nil, .nil, .int .i64, .int .i64, .nil, .nil, .nil]⟩),
  (119, ⟨8, 96, .struct [(0, 3), (1, 34)], [.int .i64, .bool, .int .i64, .int .i64, .nil, .nil, .int .i64, .int .i64]⟩),
  (120, ⟨8, 96, .struct [(0, 3), (1, 34)], [.int .i64, .bool, .int .i64, .int .i64, .nil, .nil, .int .i64, .int .i64]⟩),
  (128, ⟨8, 96, .struct [(0, 3), (1, 49)], [.int .i64, .bool, .int .i64, .int .i64, .nil, .nil, .int .i64, .int .i64]⟩),
  (129, ⟨8, 96, .struct [(0, 3), (1, 49)], [.int .i64, .bool, .int .i64, .int .i64, .nil, .nil, .int .i64, .int .i64]⟩),
  (134, ⟨4, 32, .struct [(0, 3), (1, 3), (2, 3), (3, 3)], [.int .i64, .int .i64, .int .i64, .int .i64]⟩),
  (136, ⟨4, 32, .struct [(0, 3), (1, 3), (2, 3), (3, 3)], [.int .i64, .int .i64, .int .i64, .int .i64]⟩),
  (148, ⟨1, 24, .slice 3, [.nil]⟩),
  (152, ⟨2, 16, .struct [(0, 3), (1, 3)], [.int .i64, .int .i64]⟩),
  (153, ⟨2, 16, .struct [(0, 3), (1, 3)], [.int .i64, .int .i64]⟩),
  (155, ⟨4, 32, .struct [(0, 43), (2, 3), (3, 3)], [.int .i64, .int .i64, .int .i64, .int .i64]⟩),
  (156, ⟨4, 32, .struct [(0, 43), (2, 3), (3, 3)], [.int .i64, .int .i64, .int .i64, .int .i64]⟩),
  (163, ⟨5, 40, .struct [(0, 3), (1, 43), (3, 3), (4, 3)], [.int .i64, .int .i64, .int .i64, .int .i64, .int .i64]⟩),
  (164, ⟨5, 40, .struct [(0, 3), (1, 43), (3, 3), (4, 3)], [.int .i64, .int .i64, .int .i64, .int .i64, .int .i64]⟩),
  (165, ⟨2, 16, .struct [(0, 3), (1, 3)], [.int .i64, .int .i64]⟩),
  (166, ⟨2, 16, .struct [(0, 3), (1, 3)], [.int .i64, .int .i64]⟩),
  (167, ⟨2, 16, .struct [(0, 3), (1, 3)], [.int .i64, .int .i64]⟩),
  (168, ⟨2, 16, .struct [(0, 3), (1, 3)], [.int .i64, .int .i64]⟩),
  (190, ⟨2, 16, .struct [(0, 3), (1, 3)], [.int .i64, .int .i64]⟩),
  (192, ⟨2, 16, .struct [(0, 3), (1, 3)], [.int .i64, .int .i64]⟩),
  (193, ⟨4, 4, .arr 4 4, [.bool, .bool, .bool, .bool]⟩)]
def TT : Tab := fun t => look tyL t
noncomputable abbrev PP : Program := Go.Proofs.Tryz.prog
theorem look_mem {α : Type} : ∀ {l : List (Nat × α)} {t : Nat} {i : α}, look l t = some i → (t, i) ∈ l
  | (k, v) :: l, t, i, h => by
    rw [look_cons] at h
    split at h
    · rename_i e; subst e; cases h; exact List.mem_cons_self
    · exact List.mem_cons_of_mem _ (look_mem h)
set_option maxRecDepth 100000 in
theorem TTok : TOk PP TT := fun t i h => by
  have h1 : (tyL.all fun q => q.2.ok PP q.1) = true := by kernel_rfl
  have h2 : (t, i) ∈ tyL := look_mem h
  exact List.all_eq_true.1 h1 _ h2
end Mg

/- The data of boxes, runs, entries, votes. No condition. -/
namespace Mg
open Go Go.RowKit

@[reducible] def i6 (n : Int) : MC := .sc (.int .i64 n)
@[reducible] def bo (b : Bool) : MC := .sc (.bool b)
@[reducible] def oi (n : Int) : MV := .one (.sc (.int .i64 n))
@[reducible] def ob (b : Bool) : MV := .one (.sc (.bool b))

structure Two where
  a : Int
  b : Int
  deriving DecidableEq, Inhabited
structure Run where
  reads : List Two
  puts : List Two
  c : Int
  d : Int
  deriving DecidableEq, Inhabited
structure Entry where
  none : Bool
  q : Two
  run : Run
  deriving DecidableEq, Inhabited
structure Vote where
  bal : Int
  e : Entry
  deriving DecidableEq, Inhabited
structure Acc where
  p : Int
  votes : List Vote
  deriving DecidableEq, Inhabited

def Two.cells (x : Two) : List MC := [i6 x.a, i6 x.b]
def Run.cells (x : Run) : List MC := [.fz (x.reads.map Two.cells), .fz (x.puts.map Two.cells), i6 x.c, i6 x.d]
def Entry.cells (x : Entry) : List MC := bo x.none :: (x.q.cells ++ x.run.cells)
def Vote.cells (x : Vote) : List MC := i6 x.bal :: x.e.cells
def Acc.cells (x : Acc) : List MC := [i6 x.p, .fz (x.votes.map Vote.cells)]

/-- What is small enough. -/
def Run.ok (n : Nat) (x : Run) : Prop := x.reads.length ≤ n ∧ x.puts.length ≤ n
def Entry.ok (n : Nat) (x : Entry) : Prop := x.run.ok n
def Vote.ok (n : Nat) (x : Vote) : Prop := x.e.ok n
def VotesOk (n : Nat) (xs : List Vote) : Prop := xs.length ≤ n ∧ ∀ v ∈ xs, v.ok n
def Acc.ok (n : Nat) (x : Acc) : Prop := VotesOk n x.votes
@[reducible] def lim : Nat := 1048576

theorem getD_mem {α : Type} [Inhabited α] {xs : List α} {i : Nat} (h : i < xs.length) : xs.getD i default ∈ xs := by
  rw [getD_get h]; exact List.getElem_mem h

theorem Two.frz (x : Two) : x.cells.all MC.frz = true := rfl
theorem Run.frz (x : Run) : x.cells.all MC.frz = true := rfl
theorem Entry.frz (x : Entry) : x.cells.all MC.frz = true := rfl
theorem Vote.frz (x : Vote) : x.cells.all MC.frz = true := rfl
theorem Two.flat (x : Two) : x.cells.all MC.flat = true := rfl
theorem Vote.flat (x : Vote) : x.cells.all MC.flat = true := rfl
end Mg
