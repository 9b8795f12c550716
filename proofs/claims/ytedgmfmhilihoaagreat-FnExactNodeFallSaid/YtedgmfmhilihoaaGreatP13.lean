/- Parts of the abstract state logic and of the walks, one behind the other: Mg28, Mg35, Mg36, Mg42, Mg43, Mg23, R1T, R1D. No condition. -/
import Derived.Test.YtedgmfmhilihoaaGreatP11
import Derived.Test.YtedgmfmhilihoaaGreatP12
import Derived.Test.YtedgmfmhilihoaaGreatRows
/- The abstract state logic, part 28: lists that grow. No condition. -/
namespace Mg
open Go Go.RowKit
set_option linter.unusedVariables false

section
variable {α : Type}
/-- A list of its own grows. -/
theorem sApp {a : Prop} {c : α → List MC} {xs : List α} {k b : Nat} {rows2 : List (List MC)} (ha : a) (hc : ∀ x, (c x).length = k) (h2 : (rows2.all fun r => r.length == k) = true) (hl : xs.length ≤ 1000000) (hl2 : Nat.ble rows2.length 1000000 = true) (hb : Nat.ble b 1000000 = true) :
    Side (a ∧ (∀ r ∈ xs.map c, r.length = k) ∧ (∀ r ∈ rows2, r.length = k) ∧ ((xs.map c).length + rows2.length) * b ≤ 140737488355328 ∧ (xs.map c).length + rows2.length ≤ 140737488355328) := by
  have h2' := Nat.le_of_ble_eq_true hl2
  have hb' := Nat.le_of_ble_eq_true hb
  refine ⟨ha, fun r hr => by obtain ⟨x, _, rfl⟩ := List.mem_map.1 hr; exact hc x, fun r hr => by simpa using List.all_eq_true.1 h2 r hr, ?_, ?_⟩
  · rw [List.length_map]
    exact Nat.le_trans (Nat.mul_le_mul (Nat.add_le_add hl h2') hb') (by decide)
  · rw [List.length_map]; omega
theorem sAppL {xs : List α} {x : α} {m n : Nat} (hm : m = xs.length) (hn : n = 1) : Side ((xs ++ [x]).length = m + n) := ⟨by simp [hm, hn]⟩
theorem sWr {k n : Int} (h1 : -9223372036854775808 ≤ n) (h2 : n ≤ 9223372036854775807) (h : k = n) : Side (k = IntKind.i64.wrap n) := ⟨by rw [wrapi h1 h2, h]⟩
theorem sAppR {c : α → List MC} {xs : List α} {x : α} {rows2 : List (List MC)} (h : rows2 = [c x]) : Side ((xs ++ [x]).map c = xs.map c ++ rows2) := ⟨by rw [List.map_append, h]; rfl⟩
theorem sMapF {c : α → List MC} {xs : List α} (hc : ∀ x, (c x).all MC.flat = true) : Side (∀ r ∈ xs.map c, ∀ x ∈ r, x.flat = true) :=
  ⟨fun r hr x hx => by obtain ⟨y, _, rfl⟩ := List.mem_map.1 hr; exact List.all_eq_true.1 (hc y) x hx⟩
theorem sFzE {c : α → List MC} {xs : List α} {n : Nat} (hn : n = xs.length) : Side (xs.map c = ((xs.map c).drop 0).take n) := ⟨by rw [List.drop_zero, List.take_of_length_le (by simp [hn])]⟩
theorem sMapZ {c : α → List MC} {xs : List α} (hc : ∀ x, (c x).all MC.frz = true) : Side (AllF (xs.map c) ∧ True) :=
  ⟨fun r hr x hx => by obtain ⟨y, _, rfl⟩ := List.mem_map.1 hr; exact List.all_eq_true.1 (hc y) x hx, trivial⟩
theorem l_all {c : α → List MC} {xs : List α} {n : Nat} (hn : n = xs.length) : ((xs.map c).drop 0).take n = xs.map c := by rw [List.drop_zero, List.take_of_length_le (by simp [hn])]
/-- What is lent for a call. -/
theorem allF {c : α → List MC} {xs : List α} (hc : ∀ x, (c x).all MC.frz = true) : AllF (xs.map c) :=
  fun r hr x hx => by obtain ⟨y, _, rfl⟩ := List.mem_map.1 hr; exact List.all_eq_true.1 (hc y) x hx
theorem lendF {c : α → List MC} {xs : List α} {n : Nat} (hc : ∀ x, (c x).all MC.frz = true) (hn : n = xs.length) : ∀ r ∈ ((xs.map c).drop 0).take n, ∀ x ∈ r, x.frz = true := by
  rw [l_all hn]
  exact fun r hr x hx => by obtain ⟨y, _, rfl⟩ := List.mem_map.1 hr; exact List.all_eq_true.1 (hc y) x hx
theorem sLend {P : Program} {sh : Bool} {f : Nat} {args args' : List MV} {r : MV} {p : Prop} (hp : p) (h : Pure P sh f args' r) (e : args = args') : Side (p ∧ Pure P sh f args r) := ⟨hp, e ▸ h⟩
theorem toA_map {c : α → List MC} {xs : List α} (hc : ∀ x, (c x).map MC.toA = c x) : ((xs.map c).map fun r => r.map MC.toA) = xs.map c := by
  rw [List.map_map]; exact List.map_congr_left fun x _ => hc x
theorem sAppF {c : α → List MC} {xs : List α} {rows2 : List (List MC)} {k b : Nat} (e : rows2 = xs.map c) (hc : ∀ x, (c x).length = k) (hf : ∀ x, (c x).all MC.frz = true) (hl : xs.length ≤ 2000000) (hb : Nat.ble b 1000000 = true) :
    Side ((∀ r ∈ rows2, r.length = k) ∧ rows2.length * b ≤ 140737488355328 ∧ rows2.length ≤ 140737488355328 ∧ AllF rows2 ∧ MV.one (.fz (xs.map c)) = .one (.fz rows2)) := by
  subst e
  have hb' := Nat.le_of_ble_eq_true hb
  refine ⟨fun r hr => by obtain ⟨x, _, rfl⟩ := List.mem_map.1 hr; exact hc x, ?_, ?_, allF hf, rfl⟩
  · rw [List.length_map]
    exact Nat.le_trans (Nat.mul_le_mul hl hb') (by decide)
  · rw [List.length_map]; omega
theorem setMap {c : α → List MC} {xs : List α} {k : Nat} {y : α} {r : List MC} (h : c y = r) : (xs.set k y).map c = (xs.map c).set (0 + k) r := by
  rw [Nat.zero_add, List.map_set, h]
theorem sSet {c : α → List MC} {xs : List α} {k : Nat} {y : α} {r : List MC} (h : c y = r) : Side ((xs.set k y).map c = (xs.map c).set (0 + k) r) := ⟨setMap h⟩
theorem sSetL {xs : List α} {k : Nat} {y : α} {n : Nat} (h : n = xs.length) : Side ((xs.set k y).length = n) := ⟨by rw [List.length_set, h]⟩
variable [Inhabited α]
theorem mapGet {c : α → List MC} {xs : List α} {k : Nat} (h : k < xs.length) : (xs.map c).getD (0 + k) [] = c (xs.getD k default) := by
  rw [Nat.zero_add, List.getD_eq_getElem?_getD, List.getElem?_map, List.getElem?_eq_getElem h, List.getD_eq_getElem?_getD, List.getElem?_eq_getElem h]; rfl
theorem sIxO {c : α → List MC} {xs : List α} {k : Int} {n m : Nat} (h0 : 0 ≤ k) (h : k < xs.length) (hn : n = xs.length) (hc : ∀ x, (c x).length = m) :
    Side ((0 ≤ k ∧ k < n) ∧ 0 + k.toNat < (xs.map c).length ∧ ((xs.map c).getD (0 + k.toNat) []).length = m) :=
  ⟨⟨h0, hn ▸ h⟩, by rw [List.length_map]; omega, by rw [mapGet (by omega)]; exact hc _⟩
theorem sSt {c : α → List MC} {xs : List α} {k off n m z : Nat} (h : k < xs.length) (hc : ∀ x, (c x).length = m) (hb : Nat.ble (off + n) m = true) (hz : n = z) :
    Side ((0 + k < (xs.map c).length ∧ off + n ≤ ((xs.map c).getD (0 + k) []).length) ∧ n = z) :=
  ⟨⟨by rw [List.length_map]; omega, by rw [mapGet h, hc]; exact Nat.le_of_ble_eq_true hb⟩, hz⟩
/-- A whole number that was read. -/
def intOf : List MV → Int
  | [.one (.sc (.int _ n))] => n
  | _ => 0
def asI (l : List MV) : MV := .one (.sc (.int .i64 (intOf l)))
theorem sLdI {c : α → List MC} {xs : List α} {k off : Nat} {n : α → Int} {t : α → List MC} (h : k < xs.length) (hc : ∀ x, (c x).drop off = MC.sc (.int .i64 (n x)) :: t x) :
    Side (0 < (List.drop off ((xs.map c).getD (0 + k) [])).length ∧ MV.one ((List.drop off ((xs.map c).getD (0 + k) [])).getD 0 .dead) = asI [MV.one ((List.drop off ((xs.map c).getD (0 + k) [])).getD 0 .dead)]) := by
  rw [mapGet h, hc]
  exact ⟨Nat.succ_pos _, rfl⟩
end
end Mg

/- The abstract state logic, part 35: a live list that is written no more, in the middle of code. No condition. -/
namespace Mg
open Go Go.RowKit
set_option linter.unusedVariables false
variable {P : Program} {T : Tab}

def frzW (s : S) (fs : List Nat) : MV → MV
  | .tup vs => .tup vs
  | .un => .un
  | v => frzV s fs v
/-- The state where object id is written no more. -/
def S.frz (s : S) (id : Nat) : S := ⟨s.m, s.n, s.env.map fun q => (q.1, frzW s [id] q.2), delL s.st [id]⟩
theorem frzC_bd {s : S} {fs : List Nat} {c : MC} {n : Nat} (h : c.bd n) : (frzC s fs c).bd n := by
  cases c <;> simp only [frzC] <;> first | exact h | trivial | (split <;> first | exact h | trivial)
theorem frzW_bd {s : S} {fs : List Nat} {v : MV} {n : Nat} (h : v.bd n) : (frzW s fs v).bd n := by
  cases v with
  | un => trivial
  | one c => exact frzC_bd (c := c) h
  | agg cs =>
    intro c hc
    obtain ⟨d, hd, rfl⟩ := List.mem_map.1 hc
    exact frzC_bd (h d hd)
  | tup vs => exact h
theorem look_map2 {α β : Type} (f : α → β) : ∀ (l : List (Nat × α)) (t : Nat), look (l.map fun q => (q.1, f q.2)) t = (look l t).map f
  | [], t => rfl
  | (k, v) :: l, t => by
    rw [List.map_cons, look_cons, look_cons, look_map2 f l t]
    split <;> rfl
theorem W.frz {k : Nat} {c : Code} {s : S} {Q : Exit → S → Prop} (id : Nat) {rows : List (List MC)} (hid : look s.st id = some (.arr rows)) (hall : AllF rows) (h : fS (s.frz id) fun s' => W k P c s' Q) : W k P c s Q := fun w0 wr A a w hk ⟨L, F, hr⟩ => by
  rw [fS_eq] at h
  obtain ⟨F2, hR2, hle, hrc, hout, hfz⟩ := frz_all [id] hr (by simp) (fun i hi => by
    obtain rfl : i = id := by simpa using hi
    exact ⟨rows, hid, hall⟩)
  refine h w0 wr A a w hk ⟨L, F2, ?_⟩
  refine ⟨hR2.os, hR2.tape, hR2.output, hR2.size, hR2.keep, hR2.kc, hR2.pin, hR2.fa, hR2.fn, hR2.fsz, hR2.ob, hR2.own, hR2.inj, hR2.sz, ?_, hR2.bst, ?_, hR2.df⟩
  · intro t v hv
    simp only [S.frz] at hv
    rw [look_map2] at hv
    obtain ⟨x, hx, rfl⟩ := Option.map_eq_some_iff.1 hv
    have h1 := hr.env t x hx
    have h2 := hR2.env t x hx
    cases x with
    | un => trivial
    | one c => exact frzV_ok (x := .one c) hrc hfz rfl h1
    | agg cs => exact frzV_ok (x := .agg cs) hrc hfz rfl h1
    | tup vs => exact h2
  · intro t v hv
    simp only [S.frz] at hv
    rw [look_map2] at hv
    obtain ⟨x, hx, rfl⟩ := Option.map_eq_some_iff.1 hv
    exact frzW_bd (hr.ben t x hx)
/-- Nothing, in a box, read as an empty list. -/
theorem Rl.nfb {w0 : World} {wr : Wr} {A : Nat → Prop} {L : Lay} {F : FF} {s : S} {a : Act} {w : World} (h : Rl w0 wr A L F s a w) {id : Nat} {cs : List MC} (hid : look s.st id = some (.box cs)) :
    Rl w0 wr A L F (s.set id (.box (cs.map MC.nf))) a w := by
  have hi : ∀ x : MC, ∀ u, RC (look s.st) L w F x u → RC (look (s.set id (.box (cs.map MC.nf))).st) L w F x u := fun x u hr =>
    RC.set hid (o' := .box (cs.map MC.nf)) trivial (fun _ _ => rfl) (fun _ _ _ _ _ _ hj => hj) hr
  refine ⟨h.os, h.tape, h.output, h.size, h.keep, h.kc, h.pin, h.fa, h.fn, h.fsz, ?_, ?_, ?_, h.sz, ?_, ?_, h.ben, h.df⟩
  · intro i x hx
    by_cases e : i = id
    · subst e
      have : x = .box (cs.map MC.nf) := by simpa [S.set, look_upd, hid] using hx.symm
      subst this
      obtain ⟨b, t, h1, h2, h4⟩ := h.ob i _ hid
      refine ⟨b, t, h1, h2, fun j x hj => ?_⟩
      rw [List.getElem?_map] at hj
      obtain ⟨x0, hx0, rfl⟩ := Option.map_eq_some_iff.1 hj
      obtain ⟨u, hu, hru⟩ := h4 j x0 hx0
      exact ⟨u, hu, (hi x0 u hru).nf⟩
    · rw [look_set_ne e] at hx
      exact (h.ob i x hx).imp (h.bst i x hx).2 rfl (fun k t' hk => rfl) (fun x _ u hr => hi x u hr)
  · intro i k t' h1 h2
    rw [look_set_some hid] at h1
    exact h.own i k t' h1 h2
  · intro i j k t1 t2 h1 h2 h3 h4
    rw [look_set_some hid] at h1 h2
    exact h.inj i j k t1 t2 h1 h2 h3 h4
  · intro t' v hv
    exact (h.env t' v hv).imp (h.ben t' v hv) (fun x _ u hr => hi x u hr)
  · intro i x hx
    by_cases e : i = id
    · subst e
      have : x = .box (cs.map MC.nf) := by simpa [S.set, look_upd, hid] using hx.symm
      subst this
      have hb := h.bst i _ hid
      refine ⟨hb.1, ?_⟩
      have h2 : ∀ c ∈ cs, c.bd s.n := hb.2
      show ∀ c ∈ cs.map MC.nf, c.bd s.n
      intro c hc
      obtain ⟨c0, hc0, rfl⟩ := List.mem_map.1 hc
      exact MC.nf_bd (h2 c0 hc0)
    · rw [look_set_ne e] at hx
      exact h.bst i x hx
def S.nfb (s : S) (id : Nat) : Option S := match look s.st id with
  | some (.box cs) => some (s.set id (.box (cs.map MC.nf)))
  | _ => none
theorem W.nfb {k : Nat} {c : Code} {s s' : S} {Q : Exit → S → Prop} (id : Nat) (hs : s.nfb id = some s') (h : fS s' fun s' => W k P c s' Q) : W k P c s Q := fun w0 wr A a w hk ⟨L, F, hr⟩ => by
  rw [fS_eq] at h
  unfold S.nfb at hs
  split at hs
  · rename_i cs hlk
    obtain rfl := Option.some.inj hs
    exact h w0 wr A a w hk ⟨L, F, hr.nfb hlk⟩
  · cases hs
end Mg

/- The abstract state logic, part 36: a live list in a box's cell, written no more, with parts of the arguments in it. No condition. -/
namespace Mg
open Go Go.RowKit
set_option linter.unusedVariables false
variable {P : Program} {T : Tab}

/-- A box's cell, read otherwise. -/
theorem Rl.cell {w0 : World} {wr : Wr} {A : Nat → Prop} {L : Lay} {F : FF} {s : S} {a : Act} {w : World} (h : Rl w0 wr A L F s a w) {b j : Nat} {cs : List MC} {c : MC} (hid : look s.st b = some (.box cs)) (hbd : c.bd s.n)
    (hc : ∀ k t, L b = some (k, t) → ∀ u, w.cell? ⟨k, 0 + j, none⟩ = some u → RC (look s.st) L w F c u) : Rl w0 wr A L F (s.set b (.box (cs.set j c))) a w := by
  have hi : ∀ x : MC, ∀ u, RC (look s.st) L w F x u → RC (look (s.set b (.box (cs.set j c))).st) L w F x u := fun x u hr =>
    RC.set hid (o' := .box (cs.set j c)) trivial (fun _ _ => rfl) (fun _ _ _ _ _ _ hj => hj) hr
  refine ⟨h.os, h.tape, h.output, h.size, h.keep, h.kc, h.pin, h.fa, h.fn, h.fsz, ?_, ?_, ?_, h.sz, ?_, ?_, h.ben, h.df⟩
  · intro i x hx
    by_cases e : i = b
    · subst e
      have : x = .box (cs.set j c) := by simpa [S.set, look_upd, hid] using hx.symm
      subst this
      obtain ⟨k, t, h1, h2, h4⟩ := h.ob i _ hid
      refine ⟨k, t, h1, h2, fun i2 x hj => ?_⟩
      rw [List.getElem?_set] at hj
      by_cases e2 : j = i2
      · subst e2
        rw [if_pos rfl] at hj
        split at hj
        · rename_i hlt
          obtain rfl := Option.some.inj hj
          obtain ⟨u, hu, _⟩ := h4 j _ (List.getElem?_eq_getElem hlt)
          exact ⟨u, hu, hi _ u (hc k t h1 u hu)⟩
        · cases hj
      · rw [if_neg e2] at hj
        obtain ⟨u, hu, hru⟩ := h4 i2 x hj
        exact ⟨u, hu, hi x u hru⟩
    · rw [look_set_ne e] at hx
      exact (h.ob i x hx).imp (h.bst i x hx).2 rfl (fun k t' hk => rfl) (fun x _ u hr => hi x u hr)
  · intro i k t' h1 h2
    rw [look_set_some hid] at h1
    exact h.own i k t' h1 h2
  · intro i j k t1 t2 h1 h2 h3 h4
    rw [look_set_some hid] at h1 h2
    exact h.inj i j k t1 t2 h1 h2 h3 h4
  · intro t' v hv
    exact (h.env t' v hv).imp (h.ben t' v hv) (fun x _ u hr => hi x u hr)
  · intro i x hx
    by_cases e : i = b
    · subst e
      have : x = .box (cs.set j c) := by simpa [S.set, look_upd, hid] using hx.symm
      subst this
      have hb := h.bst i _ hid
      refine ⟨hb.1, ?_⟩
      have h2 : ∀ c ∈ cs, c.bd s.n := hb.2
      show ∀ x ∈ cs.set j c, x.bd s.n
      intro x hx
      rcases List.mem_or_eq_of_mem_set hx with hx | rfl
      · exact h2 x hx
      · exact hbd
    · rw [look_set_ne e] at hx
      exact h.bst i x hx

def MC.unA : MC → MC
  | .ag r => .fz r
  | c => c
def MC.fa : MC → Bool
  | .sc _ | .fz _ | .ag _ => true
  | _ => false
theorem RC.unA {st : Sto} {L : Lay} {w : World} {F : FF} {c : MC} {u : Value} (h : RC st L w F c u) (hf : c.fa = true) : RF w F.all c.unA u := by
  cases c <;> simp [MC.fa] at hf
  · obtain ⟨rfl, h1⟩ := h; exact .sc _ h1
  · exact RF.mono (fun _ _ => rfl) (fun b hb => .inl hb) h
  · exact h
/-- Every cell is read already. -/
structure AllA (rows : List (List MC)) : Prop where
  h : ∀ r ∈ rows, ∀ c ∈ r, c.fa = true
def S.frzA (s : S) (b j : Nat) : Option (Nat × List (List MC) × S) := match look s.st b with
  | some (.box cs) => match cs[j]? with
    | some (.ref id off len) => match look s.st id with
      | some (.arr rows) => some (id, rows, { s with st := upd (del s.st id) b (.box (cs.set j (.ag (((rows.drop off).take len).map fun r => r.map MC.unA)))) })
      | _ => none
    | _ => none
  | _ => none
theorem W.frzA {k : Nat} {c : Code} {s s' : S} {Q : Exit → S → Prop} (b j : Nat) {id : Nat} {rows : List (List MC)} (hs : s.frzA b j = some (id, rows, s')) (hall : AllA rows) (h : fS s' fun s' => W k P c s' Q) : W k P c s Q := fun w0 wr A a w hk ⟨L, F, hr⟩ => by
  rw [fS_eq] at h
  unfold S.frzA at hs
  split at hs
  case h_2 => cases hs
  rename_i cs hb
  split at hs
  case h_2 => cases hs
  rename_i id0 off len hj
  split at hs
  case h_2 => cases hs
  rename_i rows0 hid
  have hs1 := Prod.mk.inj (Option.some.inj hs)
  have hs2 := Prod.mk.inj hs1.2
  obtain rfl := hs1.1
  obtain rfl := hs2.1
  obtain rfl := hs2.2
  have hbi : b ≠ id0 := fun e => by subst e; rw [hb] at hid; cases hid
  obtain ⟨kb, tb, hLb, _, hcb⟩ := hr.ob b _ hb
  obtain ⟨u0, hu0, hru0⟩ := hcb j _ hj
  obtain ⟨bb, cap, hv, hle, _⟩ := hru0.2 rows0 hid
  have hlen : ((((rows0.drop off).take len).map fun r => r.map MC.unA)).length = len := by simp; omega
  -- freeze, then read the cell otherwise
  have key : ∀ F2 : FF, (∀ x, F.all x → F2.all x) → (∀ bk t, L id0 = some (bk, t) → F2.all bk) → RF w F2.all (.fz (((rows0.drop off).take len).map fun r => r.map MC.unA)) u0 := fun F2 hF hbk => by
    by_cases hn : len = 0
    · subst hn; rw [hv]; simp; exact .nilz _ _
    · obtain ⟨bk, st, cap', hL, hv', _, hcap, _, _, hsz, hw⟩ := ref_row hr hru0 hid hn
      rw [hv']
      have := RF.mk (w := w) (F := F2.all) (rows := ((rows0.drop off).take len).map fun r => r.map MC.unA) (a := some ⟨bk, off * st, none⟩) (cap := cap') (by omega) (fun _ => ⟨bk, off * st, st, rfl, hbk bk st hL, fun r hr' => by
          obtain ⟨r0, hr0, rfl⟩ := List.mem_map.1 hr'
          rw [List.length_map]
          exact hsz r0 (List.mem_of_mem_drop (List.mem_of_mem_take hr0)), fun i j' r c hi hj' => by
        rw [List.getElem?_map] at hi
        obtain ⟨r0, hi0, rfl⟩ := Option.map_eq_some_iff.1 hi
        rw [List.getElem?_map] at hj'
        obtain ⟨c0, hc0, rfl⟩ := Option.map_eq_some_iff.1 hj'
        have hf := hall.h r0 (List.mem_of_mem_drop (List.mem_of_mem_take (List.mem_of_getElem? hi0))) c0 (List.mem_of_getElem? hc0)
        rw [List.getElem?_take] at hi0
        split at hi0
        · rw [List.getElem?_drop] at hi0
          obtain ⟨u, hu, hru⟩ := hw _ r0 hi0 j' c0 hc0
          refine ⟨u, ?_, RF.mono (fun _ _ => rfl) hF (hru.unA hf)⟩
          rw [← hu]; congr 2; rw [Nat.add_mul]; omega
        · cases hi0⟩)
      rwa [hlen] at this
  have hdb : look (del s.st id0) b = some (.box cs) := by rw [look_del, if_neg hbi]; exact hb
  cases hL : L id0 with
  | some q =>
    obtain ⟨bk, t⟩ := q
    have hR2 := hr.freeze hid hL
    refine h w0 wr A a w hk ⟨L, _, hR2.cell (j := j) (c := .ag (((rows0.drop off).take len).map fun r => r.map MC.unA)) hdb trivial (fun k t2 hk2 u hu => ?_)⟩
    rw [hLb] at hk2
    obtain ⟨rfl, rfl⟩ := Prod.mk.inj (Option.some.inj hk2)
    rw [hu0] at hu
    obtain rfl := Option.some.inj hu
    refine key _ (fun x hx => hx.imp Or.inl id) (fun bk2 t3 h3 => ?_)
    rw [hL] at h3
    obtain ⟨rfl, rfl⟩ := Prod.mk.inj (Option.some.inj h3)
    exact .inl (.inr rfl)
  | none =>
    have hsub : Sub { s with st := del s.st id0 } s := by
      refine ⟨rfl, fun t v hv => ⟨hv, hr.ben t v hv⟩, fun i o ho => ?_⟩
      simp only [look_del] at ho
      split at ho
      · cases ho
      · exact ⟨ho, hr.bst i o ho⟩
    · have hR2 := hr.weaken hsub (fun i hi => (hr.pin i hi).2)
      refine h w0 wr A a w hk ⟨L, _, hR2.cell (j := j) (c := .ag (((rows0.drop off).take len).map fun r => r.map MC.unA)) hdb trivial (fun k t2 hk2 u hu => ?_)⟩
      rw [hLb] at hk2
      obtain ⟨rfl, rfl⟩ := Prod.mk.inj (Option.some.inj hk2)
      rw [hu0] at hu
      obtain rfl := Option.some.inj hu
      exact key _ (fun x hx => hx) (fun bk2 t3 h3 => by rw [hL] at h3; cases h3)
end Mg

/- The abstract state logic, part 42: a list of read cells in a slot is frozen. No condition. -/
namespace Mg
open Go Go.RowKit
set_option linter.unusedVariables false
variable {P : Program} {T : Tab}

theorem Rl.slot {w0 : World} {wr : Wr} {A : Nat → Prop} {L : Lay} {F : FF} {s : S} {a : Act} {w : World} (h : Rl w0 wr A L F s a w) {t : Nat} {v : MV} (hv : RV (look s.st) L w F v (a.tmps.getD t undef)) (hb : v.bd s.n) : Rl w0 wr A L F { s with env := (t, v) :: s.env } a w := by
  refine ⟨h.os, h.tape, h.output, h.size, h.keep, h.kc, h.pin, h.fa, h.fn, h.fsz, h.ob, h.own, h.inj, h.sz, fun t' v' hv' => ?_, h.bst, fun t' v' hv' => ?_, h.df⟩
  · rw [show look ({ s with env := (t, v) :: s.env } : S).env t' = look ((t, v) :: s.env) t' from rfl, look_cons] at hv'
    by_cases e : t = t'
    · subst e; rw [if_pos rfl] at hv'; obtain rfl := Option.some.inj hv'; exact hv
    · rw [if_neg (fun hh => e hh.symm)] at hv'; exact h.env t' v' hv'
  · rw [show look ({ s with env := (t, v) :: s.env } : S).env t' = look ((t, v) :: s.env) t' from rfl, look_cons] at hv'
    by_cases e : t = t'
    · subst e; rw [if_pos rfl] at hv'; obtain rfl := Option.some.inj hv'; exact hb
    · rw [if_neg (fun hh => e hh.symm)] at hv'; exact h.ben t' v' hv'
def S.frzE (s : S) (t : Nat) : Option (Nat × List (List MC) × S) := match look s.env t with
  | some (.one (.ref id off len)) => match look s.st id with
    | some (.arr rows) => some (id, rows, { s with env := (t, .one (.ag (((rows.drop off).take len).map fun r => r.map MC.unA))) :: s.env, st := del s.st id })
    | _ => none
  | _ => none
theorem W.frzE {k : Nat} {c : Code} {s s' : S} {Q : Exit → S → Prop} (j : Nat) {id : Nat} {rows : List (List MC)} (hs : s.frzE j = some (id, rows, s')) (hall : AllA rows) (h : fS s' fun s' => W k P c s' Q) : W k P c s Q := fun w0 wr A a w hk ⟨L, F, hr⟩ => by
  rw [fS_eq] at h
  unfold S.frzE at hs
  split at hs
  case h_2 => cases hs
  rename_i id0 off len hj
  split at hs
  case h_2 => cases hs
  rename_i rows0 hid
  have hs1 := Prod.mk.inj (Option.some.inj hs)
  have hs2 := Prod.mk.inj hs1.2
  obtain rfl := hs1.1
  obtain rfl := hs2.1
  obtain rfl := hs2.2
  generalize hu0 : a.tmps.getD j undef = u0
  have hru0 : RC (look s.st) L w F (.ref id0 off len) u0 := hu0 ▸ hr.env j _ hj
  obtain ⟨bb, cap, hv, hle, _⟩ := hru0.2 rows0 hid
  have hlen : ((((rows0.drop off).take len).map fun r => r.map MC.unA)).length = len := by simp; omega
  -- freeze, then read the cell otherwise
  have key : ∀ F2 : FF, (∀ x, F.all x → F2.all x) → (∀ bk t, L id0 = some (bk, t) → F2.all bk) → RF w F2.all (.fz (((rows0.drop off).take len).map fun r => r.map MC.unA)) u0 := fun F2 hF hbk => by
    by_cases hn : len = 0
    · subst hn; rw [hv]; simp; exact .nilz _ _
    · obtain ⟨bk, st, cap', hL, hv', _, hcap, _, _, hsz, hw⟩ := ref_row hr hru0 hid hn
      rw [hv']
      have := RF.mk (w := w) (F := F2.all) (rows := ((rows0.drop off).take len).map fun r => r.map MC.unA) (a := some ⟨bk, off * st, none⟩) (cap := cap') (by omega) (fun _ => ⟨bk, off * st, st, rfl, hbk bk st hL, fun r hr' => by
          obtain ⟨r0, hr0, rfl⟩ := List.mem_map.1 hr'
          rw [List.length_map]
          exact hsz r0 (List.mem_of_mem_drop (List.mem_of_mem_take hr0)), fun i j' r c hi hj' => by
        rw [List.getElem?_map] at hi
        obtain ⟨r0, hi0, rfl⟩ := Option.map_eq_some_iff.1 hi
        rw [List.getElem?_map] at hj'
        obtain ⟨c0, hc0, rfl⟩ := Option.map_eq_some_iff.1 hj'
        have hf := hall.h r0 (List.mem_of_mem_drop (List.mem_of_mem_take (List.mem_of_getElem? hi0))) c0 (List.mem_of_getElem? hc0)
        rw [List.getElem?_take] at hi0
        split at hi0
        · rw [List.getElem?_drop] at hi0
          obtain ⟨u, hu, hru⟩ := hw _ r0 hi0 j' c0 hc0
          refine ⟨u, ?_, RF.mono (fun _ _ => rfl) hF (hru.unA hf)⟩
          rw [← hu]; congr 2; rw [Nat.add_mul]; omega
        · cases hi0⟩)
      rwa [hlen] at this
  cases hL : L id0 with
  | some q =>
    obtain ⟨bk, t⟩ := q
    have hR2 := hr.freeze hid hL
    refine h w0 wr A a w hk ⟨L, _, hR2.slot (t := j) (v := .one (.ag (((rows0.drop off).take len).map fun r => r.map MC.unA))) ?_ trivial⟩
    rw [hu0]
    refine key _ (fun x hx => hx.imp Or.inl id) (fun bk2 t3 h3 => ?_)
    rw [hL] at h3
    obtain ⟨rfl, rfl⟩ := Prod.mk.inj (Option.some.inj h3)
    exact .inl (.inr rfl)
  | none =>
    have hsub : Sub { s with st := del s.st id0 } s := by
      refine ⟨rfl, fun t v hv => ⟨hv, hr.ben t v hv⟩, fun i o ho => ?_⟩
      simp only [look_del] at ho
      split at ho
      · cases ho
      · exact ⟨ho, hr.bst i o ho⟩
    · have hR2 := hr.weaken hsub (fun i hi => (hr.pin i hi).2)
      refine h w0 wr A a w hk ⟨L, _, hR2.slot (t := j) (v := .one (.ag (((rows0.drop off).take len).map fun r => r.map MC.unA))) ?_ trivial⟩
      rw [hu0]
      exact key _ (fun x hx => hx) (fun bk2 t3 h3 => by rw [hL] at h3; cases h3)
end Mg

/- The abstract state logic, part 43: a frozen reading is told with its blocks. No condition. -/
namespace Mg
open Go Go.RowKit
set_option linter.unusedVariables false
variable {P : Program} {T : Tab}

theorem RC.tell {st : Sto} {L : Lay} {w : World} {F : FF} {rows : List (List MC)} {v : Value} (h : RC st L w F (.fz rows) v) : RC st L w F (.tr false F.n v rows) v := by
  have h1 : RF w F.n (.fz rows) v := h
  have h2 := RF.rt h1
  exact ⟨rfl, fun b hb => ⟨.inl hb, fun e => nomatch e⟩, h2.2⟩
def S.tellB (s : S) (b j : Nat) : Option (List (List MC) × (Bk → Value → S)) := match look s.st b with
  | some (.box cs) => match cs[j]? with
    | some (.fz rows) => some (rows, fun B u => s.set b (.box (cs.set j (.tr false B u rows))))
    | _ => none
  | _ => none
theorem W.tellB {k : Nat} {c : Code} {s : S} {Q : Exit → S → Prop} (b j : Nat) {rows : List (List MC)} {g : Bk → Value → S} (hs : s.tellB b j = some (rows, g)) (h : ∀ B u, fS (g B u) fun s' => W k P c s' Q) : W k P c s Q := fun w0 wr A a w hk ⟨L, F, hr⟩ => by
  unfold S.tellB at hs
  split at hs
  case h_2 => cases hs
  rename_i cs hb
  split at hs
  case h_2 => cases hs
  rename_i rows0 hj
  obtain ⟨rfl, rfl⟩ := Prod.mk.inj (Option.some.inj hs)
  obtain ⟨kb, tb, hLb, _, hcb⟩ := hr.ob b _ hb
  obtain ⟨u0, hu0, hru0⟩ := hcb j _ hj
  have h := h F.n u0
  rw [fS_eq] at h
  refine h w0 wr A a w hk ⟨L, F, hr.cell (j := j) (c := .tr false F.n u0 rows0) hb trivial (fun k t2 hk2 u hu => ?_)⟩
  rw [hLb] at hk2
  obtain ⟨rfl, rfl⟩ := Prod.mk.inj (Option.some.inj hk2)
  rw [hu0] at hu
  obtain rfl := Option.some.inj hu
  exact hru0.tell
def S.tellE (s : S) (t : Nat) : Option (List (List MC) × (Bk → Value → S)) := match look s.env t with
  | some (.one (.fz rows)) => some (rows, fun B u => { s with env := (t, .one (.tr false B u rows)) :: s.env })
  | _ => none
theorem W.tellE {k : Nat} {c : Code} {s : S} {Q : Exit → S → Prop} (t : Nat) {rows : List (List MC)} {g : Bk → Value → S} (hs : s.tellE t = some (rows, g)) (h : ∀ B u, fS (g B u) fun s' => W k P c s' Q) : W k P c s Q := fun w0 wr A a w hk ⟨L, F, hr⟩ => by
  unfold S.tellE at hs
  split at hs
  case h_2 => cases hs
  rename_i rows0 hj
  obtain ⟨rfl, rfl⟩ := Prod.mk.inj (Option.some.inj hs)
  have hru0 : RC (look s.st) L w F (.fz rows0) (a.tmps.getD t undef) := hr.env t _ hj
  have h := h F.n (a.tmps.getD t undef)
  rw [fS_eq] at h
  exact h w0 wr A a w hk ⟨L, F, hr.slot (t := t) (v := .one (.tr false F.n (a.tmps.getD t undef) rows0)) hru0.tell trivial⟩
end Mg

/- The abstract state logic, part 23: data out of what was read. No condition. -/
namespace Mg
open Go Go.RowKit
set_option linter.unusedVariables false

variable {T : Tab} {n t : Nat} {cs : List MC} {i : TI}

theorem fit_int {k : IntKind} (h : fit T n t cs) (ht : T t = some i) (hk : i.k = .int k) : ∃ m, cs = [.sc (.int k m)] ∧ k.min ≤ m ∧ m ≤ k.max := by
  cases n with
  | zero => exact h.elim
  | succ n => simpa only [fit, ht, hk] using h
theorem fit_bool (h : fit T n t cs) (ht : T t = some i) (hk : i.k = .bool) : ∃ b, cs = [.sc (.bool b)] := by
  cases n with
  | zero => exact h.elim
  | succ n => simpa only [fit, ht, hk] using h
theorem fit_str (h : fit T n t cs) (ht : T t = some i) (hk : i.k = .str) : ∃ s : ByteArray, cs = [.sc (.string s)] ∧ s.size ≤ maxLen := by
  cases n with
  | zero => exact h.elim
  | succ n => simpa only [fit, ht, hk] using h
theorem fit_slice {e : Nat} (h : fit T n t cs) (ht : T t = some i) (hk : i.k = .slice e) : ∃ rows, cs = [.fz rows] ∧ rows.length ≤ maxLen ∧ ∀ r ∈ rows, ∃ n, fit T n e r := by
  cases n with
  | zero => exact h.elim
  | succ n =>
    simp only [fit, ht, hk] at h
    obtain ⟨rows, h1, h2, h3⟩ := h
    exact ⟨rows, h1, h2, fun r hr => ⟨n, h3 r hr⟩⟩
theorem fit_struct {l : List (Nat × Nat)} (h : fit T n t cs) (ht : T t = some i) (hk : i.k = .struct l) : ∃ n, fitL (fit T n) (l.map (·.2)) cs := by
  cases n with
  | zero => exact h.elim
  | succ n => exact ⟨n, by simpa only [fit, ht, hk] using h⟩
theorem fit_arr {m e : Nat} (h : fit T n t cs) (ht : T t = some i) (hk : i.k = .arr m e) : ∃ n, fitL (fit T n) (List.replicate m e) cs := by
  cases n with
  | zero => exact h.elim
  | succ n => exact ⟨n, by simpa only [fit, ht, hk] using h⟩
theorem rows_data {α : Type} {c : α → List MC} {p : α → Prop} : ∀ {rows : List (List MC)}, (∀ r ∈ rows, ∃ x, r = c x ∧ p x) → ∃ xs : List α, rows = xs.map c ∧ ∀ x ∈ xs, p x
  | [], _ => ⟨[], rfl, fun x hx => by cases hx⟩
  | r :: rs, h => by
    obtain ⟨x, hx, hp⟩ := h r List.mem_cons_self
    obtain ⟨xs, hxs, hps⟩ := rows_data fun r hr => h r (List.mem_cons_of_mem _ hr)
    exact ⟨x :: xs, by simp [hx, hxs], fun y hy => by
      rcases List.mem_cons.1 hy with rfl | hy
      · exact hp
      · exact hps y hy⟩

/-- A result that is one scalar. -/
theorem OV_sc {w : World} {F : Nat → Prop} {u v : Value} {bs : List Nat} (h : OV w F (.one (.sc u)) v bs) : v = u := by
  have h : OC w F [.sc u] [v] bs := h
  cases h with
  | fz h _ => cases h; rfl

end Mg

/- The seat's types. No condition. -/
namespace Mg
open Go Go.RowKit

def tyL : List (Nat × TI) := [
  (3, ⟨1, 8, .int .i64, [.int .i64]⟩),
  (4, ⟨1, 1, .bool, [.bool]⟩),
  (5, ⟨1, 1, .int .u8, [.int .u8]⟩),
  (9, ⟨1, 16, .str, [.str]⟩),
  (12, ⟨1, 8, .int .u64, [.int .u64]⟩),
  (22, ⟨1, 24, .slice 120, [.nil]⟩),
  (23, ⟨2, 32, .struct [(0, 3), (1, 22)], [.int .i64, .nil]⟩),
  (24, ⟨2, 32, .struct [(0, 3), (1, 22)], [.int .i64, .nil]⟩),
  (25, ⟨1, 24, .slice 34, [.nil]⟩),
  (26, ⟨1, 24, .slice 4, [.nil]⟩),
  (27, ⟨2, 16, .struct [(0, 3), (1, 3)], [.int .i64, .int .i64]⟩),
  (28, ⟨2, 16, .struct [(0, 3), (1, 3)], [.int .i64, .int .i64]⟩),
  (29, ⟨1, 24, .slice 190, [.nil]⟩),
  (30, ⟨1, 24, .slice 192, [.nil]⟩),
  (31, ⟨4, 64, .struct [(0, 29), (1, 30), (2, 3), (3, 3)], [.nil, .nil, .int .i64, .int .i64]⟩),
  (32, ⟨4, 64, .struct [(0, 29), (1, 30), (2, 3), (3, 3)], [.nil, .nil, .int .i64, .int .i64]⟩),
  (33, ⟨7, 88, .struct [(0, 4), (1, 28), (3, 32)], [.bool, .int .i64, .int .i64, .nil, .nil, .int .i64, .int .i64]⟩),
  (34, ⟨7, 88, .struct [(0, 4), (1, 28), (3, 32)], [.bool, .int .i64, .int .i64, .nil, .nil, .int .i64, .int .i64]⟩),
  (35, ⟨1, 24, .slice 136, [.nil]⟩),
  (36, ⟨27, 392, .struct [(0, 3), (1, 24), (3, 25), (4, 3), (5, 3), (6, 3), (7, 26), (8, 22), (9, 34), (16, 26), (17, 4), (18, 35), (19, 34), (26, 25)], [.int .i64, .int .i64, .nil, .nil, .int .i64, .int .i64, .int .i64, .nil, .nil, .bool, .int .i64, .int .i64, .nil, .nil, .int .i64, .int .i64, .nil, .bool, .nil, .bool, .int .i64, .int .i64, .nil, .nil, .int .i64, .int .i64, .nil]⟩),
  (37, ⟨27, 392, .struct [(0, 3), (1, 24), (3, 25), (4, 3), (5, 3), (6, 3), (7, 26), (8, 22), (9, 34), (16, 26), (17, 4), (18, 35), (19, 34), (26, 25)], [.int .i64, .int .i64, .nil, .nil, .int .i64, .int .i64, .int .i64, .nil, .nil, .bool, .int .i64, .int .i64, .nil, .nil, .int .i64, .int .i64, .nil, .bool, .nil, .bool, .int .i64, .int .i64, .nil, .nil, .int .i64, .int .i64, .nil]⟩),
  (39, ⟨1, 24, .slice 129, [.nil]⟩),
  (40, ⟨2, 32, .struct [(0, 3), (1, 39)], [.int .i64, .nil]⟩),
  (41, ⟨2, 32, .struct [(0, 3), (1, 39)], [.int .i64, .nil]⟩),
  (42, ⟨1, 24, .slice 49, [.nil]⟩),
  (43, ⟨2, 16, .struct [(0, 3), (1, 3)], [.int .i64, .int .i64]⟩),
  (44, ⟨1, 24, .slice 166, [.nil]⟩),
  (45, ⟨1, 24, .slice 168, [.nil]⟩),
  (46, ⟨4, 64, .struct [(0, 44), (1, 45), (2, 3), (3, 3)], [.nil, .nil, .int .i64, .int .i64]⟩),
  (47, ⟨4, 64, .struct [(0, 44), (1, 45), (2, 3), (3, 3)], [.nil, .nil, .int .i64, .int .i64]⟩),
  (48, ⟨7, 88, .struct [(0, 4), (1, 43), (3, 47)], [.bool, .int .i64, .int .i64, .nil, .nil, .int .i64, .int .i64]⟩),
  (49, ⟨7, 88, .struct [(0, 4), (1, 43), (3, 47)], [.bool, .int .i64, .int .i64, .nil, .nil, .int .i64, .int .i64]⟩),
  (50, ⟨1, 24, .slice 134, [.nil]⟩),
  (51, ⟨27, 392, .struct [(0, 3), (1, 41), (3, 42), (4, 3), (5, 3), (6, 3), (7, 26), (8, 39), (9, 49), (16, 26), (17, 4), (18, 50), (19, 49), (26, 42)], [.int .i64, .int .i64, .nil, .nil, .int .i64, .int .i64, .int .i64, .nil, .nil, .bool, .int .i64, .int .i64, .nil, .nil, .int .i64, .int .i64, .nil, .bool, .nil, .bool, .int .i64, .int .i64, .nil, .nil, .int .i64, .int .i64, .nil]⟩),
  (52, ⟨27, 392, .struct [(0, 3), (1, 41), (3, 42), (4, 3), (5, 3), (6, 3), (7, 26), (8, 39), (9, 49), (16, 26), (17, 4), (18, 50), (19, 49), (26, 42)], [.int .i64, .int .i64, .nil, .nil, .int .i64, .int .i64, .int .i64, .nil, .nil, .bool, .int .i64, .int .i64, .nil, .nil, .int .i64, .int .i64, .nil, .bool, .nil, .bool, .int .i64, .int .i64, .nil, .nil, .int .i64, .int .i64, .nil]⟩),
  (58, ⟨1, 24, .slice 153, [.nil]⟩),
  (59, ⟨1, 24, .slice 156, [.nil]⟩),
  (60, ⟨3, 56, .struct [(0, 3), (1, 58), (2, 59)], [.int .i64, .nil, .nil]⟩),
  (61, ⟨3, 56, .struct [(0, 3), (1, 58), (2, 59)], [.int .i64, .nil, .nil]⟩),
  (65, ⟨1, 24, .slice 105, [.nil]⟩),
  (105, ⟨13, 152, .struct [(0, 3), (1, 3), (2, 3), (3, 3), (4, 3), (5, 49), (12, 39)], [.int .i64, .int .i64, .int .i64, .int .i64, .int .i64, .bool, .int .i64, .int .i64, .nil, .nil, .int .i64, .int .i64, .nil]⟩),
  (108, ⟨1, 24, .slice 164, [.nil]⟩),
  (109, ⟨29, 440, .struct [(0, 52), (27, 65), (28, 108)], [.int .i64, .int .i64, .nil, .nil, .int .i64, .int .i64, .int .i64, .nil, .nil, .bool, .int .i64, .int .i64, .nil, .nil, .int .i64, .int .i64, .nil, .bool, .nil, .bool, .int .i64, .int .i64, .nil, .nil, .int .i64, .int .i64, .nil, .nil, .nil]⟩),
  (110, ⟨29, 440, .struct [(0, 52), (27, 65), (28, 108)], [.int .i64, .int .i64, .nil, .nil, .int .i64, .int .i64, .int .i64, .nil, .nil, .bool, .int .i64, .int .i64, .nil, .nil, .int .i64, .int .i64, .nil, .bool, .nil, .bool, .int .i64, .int .i64, .nil, .nil, .int .i64, .int .i64, .nil, .nil, .nil]⟩),
  (119, ⟨8, 96, .struct [(0, 3), (1, 34)], [.int .i64, .bool, .int .i64, .int .i64, .nil, .nil, .int .i64, .int .i64]⟩),
  (120, ⟨8, 96, .struct [(0, 3), (1, 34)], [.int .i64, .bool, .int .i64, .int .i64, .nil, .nil, .int .i64, .int .i64]⟩),
  (128, ⟨8, 96, .struct [(0, 3), (1, 49)], [.int .i64, .bool, .int .i64, .int .i64, .nil, .nil, .int .i64, .int .i64]⟩),
  (129, ⟨8, 96, .struct [(0, 3), (1, 49)], [.int .i64, .bool, .int .i64, .int .i64, .nil, .nil, .int .i64, .int .i64]⟩),
  (134, ⟨4, 32, .struct [(0, 3), (1, 3), (2, 3), (3, 3)], [.int .i64, .int .i64, .int .i64, .int .i64]⟩),
  (136, ⟨4, 32, .struct [(0, 3), (1, 3), (2, 3), (3, 3)], [.int .i64, .int .i64, .int .i64, .int .i64]⟩),
  (148, ⟨1, 24, .slice 3, [.nil]⟩),
  (152, ⟨2, 16, .struct [(0, 3), (1, 3)], [.int .i64, .int .i64]⟩),
  (153, ⟨2, 16, .struct [(0, 3), (1, 3)], [.int .i64, .int .i64]⟩),
  (155, ⟨4, 32, .struct [(0, 43), (2, 3), (3, 3)], [.int .i64, .int .i64, .int .i64, .int .i64]⟩),
  (156, ⟨4, 32, .struct [(0, 43), (2, 3), (3, 3)], [.int .i64, .int .i64, .int .i64, .int .i64]⟩),
  (163, ⟨5, 40, .struct [(0, 3), (1, 43), (3, 3), (4, 3)], [.int .i64, .int .i64, .int .i64, .int .i64, .int .i64]⟩),
  (164, ⟨5, 40, .struct [(0, 3), (1, 43), (3, 3), (4, 3)], [.int .i64, .int .i64, .int .i64, .int .i64, .int .i64]⟩),
  (165, ⟨2, 16, .struct [(0, 3), (1, 3)], [.int .i64, .int .i64]⟩),
  (166, ⟨2, 16, .struct [(0, 3), (1, 3)], [.int .i64, .int .i64]⟩),
  (167, ⟨2, 16, .struct [(0, 3), (1, 3)], [.int .i64, .int .i64]⟩),
  (168, ⟨2, 16, .struct [(0, 3), (1, 3)], [.int .i64, .int .i64]⟩),
  (190, ⟨2, 16, .struct [(0, 3), (1, 3)], [.int .i64, .int .i64]⟩),
  (192, ⟨2, 16, .struct [(0, 3), (1, 3)], [.int .i64, .int .i64]⟩),
  (193, ⟨4, 4, .arr 4 4, [.bool, .bool, .bool, .bool]⟩)]
def TT : Tab := fun t => look tyL t
noncomputable abbrev PP : Program := Go.Proofs.Tryz.prog
theorem look_mem {α : Type} : ∀ {l : List (Nat × α)} {t : Nat} {i : α}, look l t = some i → (t, i) ∈ l
  | (k, v) :: l, t, i, h => by
    rw [look_cons] at h
    split at h
    · rename_i e; subst e; cases h; exact List.mem_cons_self
    · exact List.mem_cons_of_mem _ (look_mem h)
set_option maxRecDepth 100000 in
theorem TTok : TOk PP TT := fun t i h => by
  have h1 : (tyL.all fun q => q.2.ok PP q.1) = true := by kernel_rfl
  have h2 : (t, i) ∈ tyL := look_mem h
  exact List.all_eq_true.1 h1 _ h2
end Mg

/- The data of boxes, runs, entries, votes. No condition. -/
namespace Mg
open Go Go.RowKit

@[reducible] def i6 (n : Int) : MC := .sc (.int .i64 n)
@[reducible] def bo (b : Bool) : MC := .sc (.bool b)
@[reducible] def oi (n : Int) : MV := .one (.sc (.int .i64 n))
@[reducible] def ob (b : Bool) : MV := .one (.sc (.bool b))

structure Two where
  a : Int
  b : Int
  deriving DecidableEq, Inhabited
structure Run where
  reads : List Two
  puts : List Two
  c : Int
  d : Int
  deriving DecidableEq, Inhabited
structure Entry where
  none : Bool
  q : Two
  run : Run
  deriving DecidableEq, Inhabited
structure Vote where
  bal : Int
  e : Entry
  deriving DecidableEq, Inhabited
structure Acc where
  p : Int
  votes : List Vote
  deriving DecidableEq, Inhabited

def Two.cells (x : Two) : List MC := [i6 x.a, i6 x.b]
def Run.cells (x : Run) : List MC := [.fz (x.reads.map Two.cells), .fz (x.puts.map Two.cells), i6 x.c, i6 x.d]
def Entry.cells (x : Entry) : List MC := bo x.none :: (x.q.cells ++ x.run.cells)
def Vote.cells (x : Vote) : List MC := i6 x.bal :: x.e.cells
def Acc.cells (x : Acc) : List MC := [i6 x.p, .fz (x.votes.map Vote.cells)]

/-- What is small enough. -/
def Run.ok (n : Nat) (x : Run) : Prop := x.reads.length ≤ n ∧ x.puts.length ≤ n
def Entry.ok (n : Nat) (x : Entry) : Prop := x.run.ok n
def Vote.ok (n : Nat) (x : Vote) : Prop := x.e.ok n
def VotesOk (n : Nat) (xs : List Vote) : Prop := xs.length ≤ n ∧ ∀ v ∈ xs, v.ok n
def Acc.ok (n : Nat) (x : Acc) : Prop := VotesOk n x.votes
@[reducible] def lim : Nat := 1048576

theorem getD_mem {α : Type} [Inhabited α] {xs : List α} {i : Nat} (h : i < xs.length) : xs.getD i default ∈ xs := by
  rw [getD_get h]; exact List.getElem_mem h

theorem Two.frz (x : Two) : x.cells.all MC.frz = true := rfl
theorem Run.frz (x : Run) : x.cells.all MC.frz = true := rfl
theorem Entry.frz (x : Entry) : x.cells.all MC.frz = true := rfl
theorem Vote.frz (x : Vote) : x.cells.all MC.frz = true := rfl
theorem Two.flat (x : Two) : x.cells.all MC.flat = true := rfl
theorem Vote.flat (x : Vote) : x.cells.all MC.flat = true := rfl
end Mg
