/- Parts of the abstract state logic and of the walks, one behind the other: Mg25, Mg29, Mg32. No condition. -/
import Derived.Test.YtedgmfmhilihoaaGreatP5
import Derived.Test.YtedgmfmhilihoaaGreatP3
/- The abstract state logic, part 25: a call that hands objects over. No condition. -/
namespace Mg
open Go Go.RowKit
set_option linter.unusedVariables false

variable {P : Program} {T : Tab}

def delL (st : List (Nat × Ob)) : List Nat → List (Nat × Ob)
  | [] => st
  | id :: ids => delL (del st id) ids
def S.dels (s : S) (fs : List Nat) : S := { s with st := delL s.st fs }

/-- Objects that nobody writes any more. -/
theorem frz_all {w0 : World} {wr : Wr} {A : Nat → Prop} {L : Lay} {a : Act} {w : World} : ∀ (fs : List Nat) {s : S} {F : FF}, Rl w0 wr A L F s a w → fs.Nodup → (∀ id ∈ fs, ∃ rows, look s.st id = some (.arr rows) ∧ AllF rows) →
    ∃ F', Rl w0 wr A L F' (s.dels fs) a w ∧ F.le F' ∧ (∀ x u, RC (look s.st) L w F x u → RC (look (s.dels fs).st) L w F' x u) ∧ (∀ id, id ∉ fs → look (s.dels fs).st id = look s.st id) ∧
      ∀ id ∈ fs, ∀ rows, look s.st id = some (.arr rows) → ∀ off len v, RC (look s.st) L w F (.ref id off len) v → RF w F'.n (.fz ((rows.drop off).take len)) v
  | [], s, F, h, _, _ => ⟨F, h, .rfl, fun _ _ h => h, fun _ _ => rfl, fun id hid => by simp at hid⟩
  | id :: fs, s, F, h, hn, hfs => by
    obtain ⟨hid, hn⟩ := List.nodup_cons.1 hn
    obtain ⟨rows, hr, hall⟩ := hfs id (by simp)
    -- one object
    have hst : ∀ i, look (del s.st id) i = look s.st i ∨ look (del s.st id) i = none ∨ (look s.st i = none ∧ False) := fun i => by
      rw [look_del]
      by_cases e : i = id
      · rw [if_pos e]; exact .inr (.inl rfl)
      · rw [if_neg e]; exact .inl rfl
    have hone : ∃ F1, Rl w0 wr A L F1 { s with st := del s.st id } a w ∧ F.le F1 ∧ ∀ off len v, RC (look s.st) L w F (.ref id off len) v → RF w F1.n (.fz ((rows.drop off).take len)) v := by
      rcases h.ob id _ hr with ⟨he, hL⟩ | ⟨b, t, hL, hf, hs, hw⟩
      · refine ⟨F, h.drop id, .rfl, fun off len v hv => ?_⟩
        obtain ⟨a', cap, h1, h2, h3⟩ := hv.2 rows hr
        have hl0 : len = 0 := by rw [he] at h2; simp at h2; exact h2.2
        subst hl0
        rw [h1]; exact .nilz _ _
      · refine ⟨_, h.freeze hr hL, ⟨fun _ h => Or.inl h, fun _ h => h, fun _ h => h⟩, fun off len v hv => ?_⟩
        obtain ⟨bb, cap, h1, h2, h3⟩ := hv.2 rows hr
        have hlen : ((rows.drop off).take len).length = len := by simp; omega
        by_cases hn0 : len = 0
        · subst hn0; rw [h1]; exact .nilz _ _
        · obtain ⟨b', t', cap', hL', hv', _, hcap, _, _, hs', hw'⟩ := ref_row h hv hr hn0
          rw [hL] at hL'
          obtain ⟨rfl, rfl⟩ := Prod.mk.inj (Option.some.inj hL')
          rw [hv']
          have := RF.mk (w := w) (F := fun k => F.n k ∨ k = b) (rows := (rows.drop off).take len) (a := some ⟨b, off * t, none⟩) (cap := cap') (by omega) (fun _ => ⟨b, off * t, t, rfl, .inr rfl, fun r hr => hs' r (List.mem_of_mem_drop (List.mem_of_mem_take hr)), fun i j r c hi hj => by
            have hff := hall r (List.mem_of_mem_drop (List.mem_of_mem_take (List.mem_of_getElem? hi))) c (List.mem_of_getElem? hj)
            rw [List.getElem?_take] at hi
            split at hi
            · rw [List.getElem?_drop] at hi
              obtain ⟨u, hu, hru⟩ := hw' _ r hi j c hj
              refine ⟨u, ?_, RF.mono (fun _ _ => rfl) (fun b hb => Or.inl hb) (hru.to_RF hff)⟩
              rw [← hu]; congr 2; rw [Nat.add_mul]; omega
            · cases hi⟩)
          rwa [hlen] at this
    obtain ⟨F1, h1, hle, href⟩ := hone
    have hrc : ∀ x u, RC (look s.st) L w F x u → RC (look (del s.st id)) L w F1 x u := fun x u hx =>
      RC.mono (fun _ _ => rfl) hle hst (fun _ _ => rfl) (fun _ _ _ _ _ _ h => h) hx
    have hne : ∀ j, j ≠ id → look (del s.st id) j = look s.st j := fun j hj => by rw [look_del, if_neg hj]
    obtain ⟨F', g1, g2, g3, g4, g5⟩ := frz_all fs h1 hn (fun j hj => by
      obtain ⟨rows', h3, h4⟩ := hfs j (List.mem_cons_of_mem _ hj)
      exact ⟨rows', by show look (del s.st id) j = _; rw [hne j (fun e => hid (e ▸ hj))]; exact h3, h4⟩)
    refine ⟨F', g1, ⟨fun b hb => g2.n b (hle.n b hb), fun b hb => g2.a b (hle.a b hb), fun b hb => hle.r b (g2.r b hb)⟩, fun x u hx => g3 x u (hrc x u hx), fun j hj => ?_, fun j hj rows' hr' off len v hv => ?_⟩
    · have := g4 j (fun h => hj (List.mem_cons_of_mem _ h))
      rw [show look (s.dels (id :: fs)).st j = look (S.dels { s with st := del s.st id } fs).st j from rfl, this]
      exact hne j (fun e => hj (by simp [e]))
    · by_cases e : j = id
      · subst e
        rw [hr] at hr'
        obtain rfl : rows = rows' := by simpa using hr'
        exact RF.mono (fun _ _ => rfl) (fun b hb => g2.n b hb) (href off len v hv)
      · have hj' : j ∈ fs := by simpa [e] using hj
        exact g5 j hj' rows' (by show look (del s.st id) j = _; rw [hne j e]; exact hr') off len v (hrc _ v hv)

/- ------------------------------------------------ what is handed over -/
def idx : List Nat → Nat → Nat → Option Nat
  | [], _, _ => none
  | b :: β, k, id => match Nat.beq b id with
    | true => some k
    | false => idx β (k + 1) id
theorem idx_ok : ∀ {β : List Nat} {k id i : Nat}, idx β k id = some i → k ≤ i ∧ β[i - k]? = some id
  | [], k, id, i, h => by cases h
  | b :: β, k, id, i, h => by
    unfold idx at h
    split at h
    · rename_i hb
      obtain rfl := Option.some.inj h
      exact ⟨Nat.le_refl _, by simpa using Nat.eq_of_beq_eq_true hb⟩
    · obtain ⟨h1, h2⟩ := idx_ok h
      exact ⟨by omega, by rw [show i - k = (i - (k + 1)) + 1 by omega, List.getElem?_cons_succ]; exact h2⟩

/-- A cell as the callee sees it. -/
def passC (md : Bool) (s : S) (β fs : List Nat) : MC → Option MC
  | .sc v => some (.sc v)
  | .nil => some (.fz [])
  | .fz rows => some (.fz rows)
  | .ag rows => match md with
    | true => some (.fz rows)
    | false => some (.ag rows)
  | .ref id off len => match idx β 0 id with
    | some i => some (.ref i off len)
    | none => match fs.contains id, look s.st id with
      | true, some (.arr rows) => some (.fz ((rows.drop off).take len))
      | _, _ => none
  | .ptr id row off => (idx β 0 id).map fun i => .ptr i row off
  | _ => none
def passL (md : Bool) (s : S) (β fs : List Nat) : List MC → Option (List MC)
  | [] => some []
  | c :: cs => match passC md s β fs c, passL md s β fs cs with
    | some d, some ds => some (d :: ds)
    | _, _ => none
def passV (md : Bool) (s : S) (β fs : List Nat) : MV → Option MV
  | .one c => (passC md s β fs c).map .one
  | .agg cs => (passL md s β fs cs).map .agg
  | _ => none
def passA (md : Bool) (s : S) (β fs : List Nat) : List Operand → Option (List MV)
  | [] => some []
  | x :: xs => match (evO s x).bind (passV md s β fs), passA md s β fs xs with
    | some d, some ds => some (d :: ds)
    | _, _ => none
def MC.isc : MC → Bool
  | .sc _ => true
  | _ => false
def passO (md : Bool) (s : S) (β fs : List Nat) : List Nat → Option (Prop × List Ob)
  | [] => some (True, [])
  | id :: ids => match look s.st id, passO md s β fs ids with
    | some (.box cs), some (q, os) => (passL md s β fs cs).map fun ds => (q, .box ds :: os)
    | some (.arr rows), some (q, os) => some (AllF rows ∧ q, .arr rows :: os)
    | _, _ => none
/-- The objects whose slices are read alone. -/
def passF (s : S) : List Nat → Option Prop
  | [] => some True
  | id :: ids => match look s.st id, passF s ids with
    | some (.arr rows), some q => some (AllF rows ∧ q)
    | _, _ => none
theorem passF_ok {s : S} : ∀ {fs : List Nat} {q : Prop}, passF s fs = some q → q → ∀ id ∈ fs, ∃ rows, look s.st id = some (.arr rows) ∧ AllF rows
  | [], q, _, _, id, hid => by simp at hid
  | i :: fs, q, h, hq, id, hid => by
    simp only [passF] at h
    split at h
    · rename_i rows q' h1 h2
      obtain rfl := Option.some.inj h
      rcases List.mem_cons.1 hid with rfl | hid
      · exact ⟨rows, h1, hq.1⟩
      · exact passF_ok h2 hq.2 id hid
    · cases h

section
variable {w0 : World} {wr : Wr} {A0 : Nat → Prop} {L : Lay} {F F' : FF} {s : S} {a : Act} {w : World} {β fs : List Nat} {os : List Ob} {L0 : Lay} {md : Bool} {B BA : Nat → Prop}

structure PassOK (w : World) (L : Lay) (F F' : FF) (s : S) (β fs : List Nat) (os : List Ob) (L0 : Lay) (md : Bool) (B BA : Nat → Prop) : Prop where
  bn : ∀ b, F'.n b → B b
  bb : ∀ b, F'.all b → BA b
  ba : md = true → ∀ b, F'.all b → B b
  le : F.le F'
  lay : ∀ (i id : Nat), β[i]? = some id → L0 i = L id
  arr : ∀ (i id : Nat) (rows : List (List MC)), β[i]? = some id → os[i]? = some (.arr rows) → look s.st id = some (.arr rows)
  live : ∀ id ∈ β, (look s.st id).isSome = true
  len : os.length = β.length
  fz : ∀ id ∈ fs, ∀ rows, look s.st id = some (.arr rows) → ∀ off len v, RC (look s.st) L w F (.ref id off len) v → RF w F'.n (.fz ((rows.drop off).take len)) v

theorem passC_ok (hp : PassOK w L F F' s β fs os L0 md B BA) {c d : MC} {v : Value} (hc : RC (look s.st) L w F c v) (h : passC md s β fs c = some d) : RC (nth os) L0 w ⟨B, BA⟩ d v ∧ d.bd os.length := by
  have hF : ∀ b, F.n b → B b := fun b hb => hp.bn b (hp.le.n b hb)
  cases c <;> simp only [passC] at h
  case sc u => obtain rfl := Option.some.inj h; exact ⟨hc, trivial⟩
  case nil =>
    obtain rfl := Option.some.inj h
    obtain ⟨b, rfl⟩ := hc; exact ⟨RF.nilz b 0, trivial⟩
  case fz rows => obtain rfl := Option.some.inj h; exact ⟨RF.mono (fun _ _ => rfl) hF hc, trivial⟩
  case ag rows =>
    split at h
    · obtain rfl := Option.some.inj h
      exact ⟨RF.mono (fun _ _ => rfl) (fun b hb => hp.ba rfl b (hp.le.all b hb)) hc, trivial⟩
    · obtain rfl := Option.some.inj h
      exact ⟨RF.mono (fun _ _ => rfl) (fun b hb => .inr (hp.bb b (hp.le.all b hb))) hc, trivial⟩
  case ref id off len =>
    split at h
    · rename_i i hi
      obtain rfl := Option.some.inj h
      obtain ⟨_, hb⟩ := idx_ok hi
      have hlt := (List.getElem?_eq_some_iff.1 hb).1
      refine ⟨⟨hc.1, fun rows hr => ?_⟩, by show i < os.length; rw [hp.len]; simpa using hlt⟩
      obtain ⟨a', cap, h1, h2, h3⟩ := hc.2 rows (hp.arr i id rows hb hr)
      exact ⟨a', cap, h1, h2, h3.imp (fun ⟨b, t, h4, h5⟩ => ⟨b, t, by rw [hp.lay i id hb]; exact h4, h5⟩) fun h => h⟩
    · split at h
      · rename_i rows hfs hr
        obtain rfl := Option.some.inj h
        exact ⟨RF.mono (fun _ _ => rfl) hp.bn (hp.fz id (by simpa using hfs) rows hr off len v hc), trivial⟩
      · cases h
  case ptr id row off =>
    obtain ⟨i, hi, rfl⟩ := Option.map_eq_some_iff.1 h
    obtain ⟨_, hb⟩ := idx_ok hi
    have hlt := (List.getElem?_eq_some_iff.1 hb).1
    refine ⟨⟨hc.1, fun _ => ?_⟩, by show i < os.length; rw [hp.len]; simpa using hlt⟩
    obtain ⟨b, t, h1, h2⟩ := hc.2 (hp.live id (List.mem_of_getElem? hb))
    exact ⟨b, t, by rw [hp.lay i id hb]; exact h1, h2⟩
  all_goals cases h

theorem passL_ok (hp : PassOK w L F F' s β fs os L0 md B BA) : ∀ {cs ds : List MC}, passL md s β fs cs = some ds → ds.length = cs.length ∧ ∀ (j : Nat) (d : MC), ds[j]? = some d → ∃ c, cs[j]? = some c ∧ ∀ v, RC (look s.st) L w F c v → RC (nth os) L0 w ⟨B, BA⟩ d v ∧ d.bd os.length
  | [], ds, h => by obtain rfl := Option.some.inj h; exact ⟨rfl, fun j d hj => by simp at hj⟩
  | c :: cs, ds, h => by
    simp only [passL] at h
    split at h
    · rename_i d1 ds1 h1 h2
      obtain rfl := Option.some.inj h
      obtain ⟨h3, h4⟩ := passL_ok hp h2
      refine ⟨by simp [h3], fun j d hj => ?_⟩
      cases j with
      | zero => obtain rfl := Option.some.inj hj; exact ⟨c, rfl, fun v hv => passC_ok hp hv h1⟩
      | succ j => exact h4 j d hj
    · cases h

theorem passL_bd : ∀ {cs ds : List MC}, β.length = os.length → passL md s β fs cs = some ds → ∀ d ∈ ds, d.bd os.length
  | [], ds, _, h, d, hd => by obtain rfl := Option.some.inj h; simp at hd
  | c :: cs, ds, hl, h, d, hd => by
    simp only [passL] at h
    split at h
    · rename_i d1 ds1 h1 h2
      obtain rfl := Option.some.inj h
      rcases List.mem_cons.1 hd with rfl | hd
      · cases c <;> simp only [passC] at h1
        case ref id off len =>
          split at h1
          · rename_i i hi
            obtain rfl := Option.some.inj h1
            obtain ⟨_, hb⟩ := idx_ok hi
            have hlt := (List.getElem?_eq_some_iff.1 hb).1
            show i < os.length
            rw [← hl]; simpa using hlt
          · split at h1
            · obtain rfl := Option.some.inj h1; trivial
            · cases h1
        case ptr id row off =>
          obtain ⟨i, hi, rfl⟩ := Option.map_eq_some_iff.1 h1
          obtain ⟨_, hb⟩ := idx_ok hi
          have hlt := (List.getElem?_eq_some_iff.1 hb).1
          show i < os.length
          rw [← hl]; simpa using hlt
        case ag rows =>
          split at h1
          · obtain rfl := Option.some.inj h1; trivial
          · obtain rfl := Option.some.inj h1; trivial
        all_goals first | (obtain rfl := Option.some.inj h1; trivial) | cases h1
      · exact passL_bd hl h2 d hd
    · cases h

theorem passV_ok (hp : PassOK w L F F' s β fs os L0 md B BA) {x y : MV} {v : Value} (hx : RV (look s.st) L w F x v) (h : passV md s β fs x = some y) : RV (nth os) L0 w ⟨B, BA⟩ y v ∧ y.bd os.length := by
  cases x <;> simp only [passV] at h
  case one c =>
    obtain ⟨d, hd, rfl⟩ := Option.map_eq_some_iff.1 h
    exact passC_ok hp hx hd
  case agg cs =>
    obtain ⟨ds, hd, rfl⟩ := Option.map_eq_some_iff.1 h
    obtain ⟨arr, rfl, h1, h2⟩ := hx
    obtain ⟨h3, h4⟩ := passL_ok hp hd
    refine ⟨⟨arr, rfl, by rw [h1, h3], fun j d hj => ?_⟩, passL_bd hp.len.symm hd⟩
    obtain ⟨c, hc, hd'⟩ := h4 j d hj
    obtain ⟨u, hu, hr⟩ := h2 j c hc
    exact ⟨u, hu, (hd' u hr).1⟩
  all_goals cases h

theorem passA_ok (hr : Rl w0 wr A0 L F s a w) (hp : PassOK w L F F' s β fs os L0 md B BA) : ∀ {xs : List Operand} {ds : List MV}, passA md s β fs xs = some ds →
    ds.length = xs.length ∧ ∀ (j : Nat) (d : MV), ds[j]? = some d → ∃ v, (xs.map a.eval)[j]? = some v ∧ RV (nth os) L0 w ⟨B, BA⟩ d v ∧ d.bd os.length
  | [], ds, h => by obtain rfl := Option.some.inj h; exact ⟨rfl, fun j d hj => by simp at hj⟩
  | x :: xs, ds, h => by
    simp only [passA] at h
    split at h
    · rename_i d1 ds1 h1 h2
      obtain rfl := Option.some.inj h
      obtain ⟨h3, h4⟩ := passA_ok hr hp h2
      obtain ⟨mv, hmv, hlv⟩ := Option.bind_eq_some_iff.1 h1
      refine ⟨by simp [h3], fun j d hj => ?_⟩
      cases j with
      | zero => obtain rfl := Option.some.inj hj; exact ⟨_, rfl, passV_ok hp (evO_ok hr hmv).1 hlv⟩
      | succ j => exact h4 j d hj
    · cases h
end


inductive PassOb (md : Bool) (s : S) (β fs : List Nat) : Ob → Ob → Prop
  | box {cs ds : List MC} (h : passL md s β fs cs = some ds) : PassOb md s β fs (.box cs) (.box ds)
  | arr {rows : List (List MC)} (h : AllF rows) : PassOb md s β fs (.arr rows) (.arr rows)

theorem passO_ok {md : Bool} {s : S} {β fs : List Nat} : ∀ {ids : List Nat} {q : Prop} {os : List Ob}, passO md s β fs ids = some (q, os) → q → os.length = ids.length ∧ ∀ (i id : Nat), ids[i]? = some id → ∃ o o', look s.st id = some o ∧ os[i]? = some o' ∧ PassOb md s β fs o o'
  | [], q, os, h, _ => by
    obtain ⟨_, rfl⟩ := Prod.mk.inj (Option.some.inj h)
    exact ⟨rfl, fun i id hi => by simp at hi⟩
  | id :: ids, q, os, h, hq => by
    simp only [passO] at h
    split at h
    · rename_i cs q' os' h1 h2
      obtain ⟨ds, hd, he⟩ := Option.map_eq_some_iff.1 h
      obtain ⟨rfl, rfl⟩ := Prod.mk.inj he
      obtain ⟨h3, h4⟩ := passO_ok h2 hq
      refine ⟨by simp [h3], fun i id' hi => ?_⟩
      cases i with
      | zero => obtain rfl : id = id' := by simpa using hi
                exact ⟨_, _, h1, rfl, .box hd⟩
      | succ i => exact h4 i id' (by simpa using hi)
    · rename_i rows q' os' h1 h2
      obtain ⟨rfl, rfl⟩ := Prod.mk.inj (Option.some.inj h)
      obtain ⟨h3, h4⟩ := passO_ok h2 hq.2
      refine ⟨by simp [h3], fun i id' hi => ?_⟩
      cases i with
      | zero => obtain rfl : id = id' := by simpa using hi
                exact ⟨_, _, h1, rfl, .arr hq.1⟩
      | succ i => exact h4 i id' (by simpa using hi)
    · cases h

def likeL : List Ob → List Ob → Prop
  | [], _ => True
  | .box _ :: os, .box _ :: os' => likeL os os'
  | .arr r :: os, .arr r' :: os' => r.length ≤ r'.length ∧ likeL os os'
  | _, _ => False
theorem likeL_ok : ∀ {os os' : List Ob}, likeL os os' → ∀ (i : Nat) (o o' : Ob), os[i]? = some o → os'[i]? = some o' → o.like o'
  | [], _, _, i, o, o', h, _ => by simp at h
  | x :: os, [], hl, i, o, o', h, h' => by simp at h'
  | x :: os, y :: os', hl, i, o, o', h, h' => by
    cases i with
    | zero =>
      obtain rfl : x = o := by simpa using h
      obtain rfl : y = o' := by simpa using h'
      cases x <;> cases y <;> first | exact hl.1 | trivial | exact hl.elim
    | succ i =>
      have : likeL os os' := by cases x <;> cases y <;> first | exact hl.2 | exact hl | exact hl.elim
      exact likeL_ok this i o o' (by simpa using h) (by simpa using h')
def fixL (md : Bool) : List Ob → Prop
  | [] => True
  | .box _ :: os => fixL md os
  | .arr rows :: os => (match md with
    | true => True
    | false => AllF rows) ∧ fixL md os
theorem fixL_ok {md : Bool} {n : Nat} {β : List Nat} : ∀ {os : List Ob}, fixL md os → ∀ o ∈ os, fixO md n β o
  | [], _, o, h => by simp at h
  | x :: os, hl, o, h => by
    rcases List.mem_cons.1 h with rfl | h
    · cases o with
      | box cs => trivial
      | arr rows =>
        intro hmd r hr c hc
        cases md with
        | true => cases hmd
        | false =>
          have := hl.1 r hr c hc
          cases c <;> first | rfl | (simp [MC.frz] at this)
    · exact fixL_ok (by cases x <;> first | exact hl.2 | exact hl) o h

theorem look_delL : ∀ (ids : List Nat) (st : List (Nat × Ob)) (i : Nat), look (delL st ids) i = if i ∈ ids then none else look st i
  | [], st, i => by simp [delL]
  | id :: ids, st, i => by
    rw [delL, look_delL ids, look_del]
    by_cases h1 : i ∈ ids
    · simp [h1]
    · by_cases h2 : i = id <;> simp [h1, h2]
theorem Rl.drops {w0 : World} {wr : Wr} {A : Nat → Prop} {L : Lay} {F : FF} {a : Act} {w : World} : ∀ (ids : List Nat) {s : S}, Rl w0 wr A L F s a w → Rl w0 wr A L F (s.dels ids) a w
  | [], s, h => h
  | id :: ids, s, h => Rl.drops ids (s := { s with st := del s.st id }) (h.drop id)

/-- A CALL that hands the objects β over, uses cs up, and reads fs (which nobody writes any more). -/
theorem r_con {o : Oper} {s : S} {K : S → Prop} {f : Nat} {xs : Array Operand} {ts : Array TypeId} {md : Bool} {β cs fs : List Nat} {q1 q2 : Prop} {ds : List MV} {os : List Ob} {D : Type} {p : D → Prop} {r : D → MV} {os' : D → List Ob}
    (ho : o.op = .call { callee := .value (.func f), args := xs, argTypes := ts }) (hd : Oper.dok o s.m = true) (hn : ((β ++ cs) ++ fs).Nodup) (hf : passF s fs = some q1) (hq1 : q1) (hob : passO md s (β ++ cs) fs (β ++ cs) = some (q2, os)) (hq2 : q2)
    (ha : passA md s (β ++ cs) fs xs.toList = some ds) (hc : Con P f ds os β.length p r os') (hlk : ∀ d, p d → likeL (os.take β.length) (os' d)) (hfx : ∀ d, p d → fixL md (os' d))
    (k : ∀ d, p d → K ((conS md ((s.dels fs).dels cs) β (os' d)).put o.dst (backV md s.n β (r d)))) : OpOK P o s K := by
  intro w0 wr A a w Q K' hg ⟨L, F, hR⟩ hK
  obtain ⟨⟨fn, hfn, hname, hbody⟩, hc⟩ := hc
  obtain ⟨hnβc, hnf, hdis⟩ := List.nodup_append.1 hn
  obtain ⟨hnβ, hnc, hdc⟩ := List.nodup_append.1 hnβc
  obtain ⟨F', hR1, hle, hrc, hout, hfz⟩ := frz_all fs hR hnf (passF_ok hf hq1)
  obtain ⟨hlen, hpo⟩ := passO_ok hob hq2
  let L0 : Lay := fun i => match (β ++ cs)[i]? with
    | some id => L id
    | none => none
  have hL0 : ∀ (i id : Nat), (β ++ cs)[i]? = some id → L0 i = L id := fun i id h => by simp only [L0, h]
  let B : Nat → Prop := fun b => F'.n b ∨ (md = true ∧ F'.all b)
  have hBa : ∀ b, B b → F'.all b := fun b hb => hb.elim Or.inl fun h => h.2
  let BA : Nat → Prop := F'.all
  have hp : PassOK w L F F' s (β ++ cs) fs os L0 md B BA := ⟨fun b hb => .inl hb, fun b hb => hb, fun hm b hb => .inr ⟨hm, hb⟩, hle, hL0, fun i id rows hi hr => by
      obtain ⟨o1, o2, h1, h2, h3⟩ := hpo i id hi
      rw [h2] at hr
      obtain rfl := Option.some.inj hr
      cases h3
      exact h1, fun id hid => by
      obtain ⟨i, hi⟩ := List.getElem?_of_mem hid
      obtain ⟨o1, o2, h1, _⟩ := hpo i id hi
      rw [h1]; rfl, hlen, hfz⟩
  have hlive1 : ∀ id ∈ β ++ cs, (look (s.dels fs).st id).isSome = true := fun id hid => by
    rw [hout id (fun h => hdis id hid id h rfl)]; exact hp.live id hid
  have hget : ∀ i, i < os.length → ∃ id, (β ++ cs)[i]? = some id := fun i hi => ⟨_, List.getElem?_eq_getElem (by omega)⟩
  obtain ⟨h1, h2⟩ := passA_ok hR hp ha
  have hrun : (execOp a.eval o).run P w = .ok (.enter f (xs.map a.eval)) w := by
    simp only [execOp, ho, resolve, Act.eval, Deferred.ofValue, Sem.run_bind, Sem.run_pure, Result.andThen_ok, invoke, callFunc, run_program, hfn, hname, hbody]
    simp
  unfold Oper.wp
  rw [hrun]
  show Calls P f (xs.map a.eval) w _
  have hobs : ObsOK w ⟨B, BA⟩ L0 os := by
    refine ⟨fun i x hx => ?_, fun i j b t u hi hj h3 h4 => ?_, fun i b t hi h3 => ?_, fun x hx => ?_⟩
    · have hi := (List.getElem?_eq_some_iff.1 hx).1
      obtain ⟨id, hid⟩ := hget i hi
      obtain ⟨o1, o2, g1, g2, g3⟩ := hpo i id hid
      rw [hx] at g2
      obtain rfl := Option.some.inj g2
      have hok := hR.ob id o1 g1
      cases g3 with
      | box hcs =>
        obtain ⟨b, t, h3, h4, h5⟩ := hok
        obtain ⟨_, hpl⟩ := passL_ok hp hcs
        refine ⟨b, t, by rw [hL0 i id hid]; exact h3, h4, fun j d hj => ?_⟩
        obtain ⟨c, hcj, hcd⟩ := hpl j d hj
        obtain ⟨u, hu, hru⟩ := h5 j c hcj
        exact ⟨u, hu, (hcd u hru).1⟩
      | arr hsc =>
        rcases hok with ⟨h3, h4⟩ | ⟨b, t, h3, h4, h5, h6⟩
        · exact .inl ⟨h3, by rw [hL0 i id hid]; exact h4⟩
        · refine .inr ⟨b, t, by rw [hL0 i id hid]; exact h3, h4, h5, fun kk r hr j c hj => ?_⟩
          obtain ⟨u, hu, hru⟩ := h6 kk r hr j c hj
          refine ⟨u, hu, ?_⟩
          have := hsc r (List.mem_of_getElem? hr) c (List.mem_of_getElem? hj)
          exact RC.of_RF (RF.mono (fun _ _ => rfl) (fun b hb => .inl (hle.n b hb)) (hru.to_RF this))
    · obtain ⟨id, hid⟩ := hget i hi
      obtain ⟨jd, hjd⟩ := hget j hj
      rw [hL0 i id hid] at h3
      rw [hL0 j jd hjd] at h4
      have e := hR.inj id jd b t u (hp.live id (List.mem_of_getElem? hid)) (hp.live jd (List.mem_of_getElem? hjd)) h3 h4
      subst e
      have g1 := List.getElem?_eq_some_iff.1 hid
      have g2 := List.getElem?_eq_some_iff.1 hjd
      rcases Nat.lt_trichotomy i j with hij | hij | hij
      · exact absurd (g1.2.trans g2.2.symm) (List.pairwise_iff_getElem.1 hnβc i j g1.1 g2.1 hij)
      · exact hij
      · exact absurd (g2.2.trans g1.2.symm) (List.pairwise_iff_getElem.1 hnβc j i g2.1 g1.1 hij)
    · obtain ⟨id, hid⟩ := hget i hi
      rw [hL0 i id hid] at h3
      have := hR1.own id b t (hlive1 id (List.mem_of_getElem? hid)) h3
      exact ⟨fun hb => this.1 (hb.elim (hBa b) fun h => h), this.2.1⟩
    · obtain ⟨i, hx⟩ := List.getElem?_of_mem hx
      have hi := (List.getElem?_eq_some_iff.1 hx).1
      obtain ⟨id, hid⟩ := hget i hi
      obtain ⟨o1, o2, g1, g2, g3⟩ := hpo i id hid
      rw [hx] at g2
      obtain rfl := Option.some.inj g2
      cases g3 with
      | box hcs => exact passL_bd hlen.symm hcs
      | arr hsc =>
        intro r hr c hc
        exact MC.bd_frz (hsc r hr c hc)
  refine (hc w B BA L0 (xs.map a.eval) (by simp [h1]) (fun b hb => hR1.fsz b hb) hBa hobs (fun j x hj => by
    obtain ⟨v, hv, hx⟩ := h2 j x hj
    exact ⟨v, by simpa using hv, hx⟩) (hg.gt.move hR.size fun g h1 h2 => ⟨hR.keep g h1 h2, fun ⟨i, t, hi, hL⟩ => by
    obtain ⟨id, hid⟩ := hget i hi
    rw [hL0 i id hid] at hL
    rcases (hR1.own id g t (hlive1 id (List.mem_of_getElem? hid)) hL).2.2 with h3 | h3
    · omega
    · exact h2 h3⟩)).mono fun e w' ⟨d, v, L', F1, he, hpd, hpost⟩ => ?_
  subst he
  have hR2 := hR1.drops cs
  have hβget : ∀ (i id : Nat), β[i]? = some id → (β ++ cs)[i]? = some id := fun i id hi => by
    rw [List.getElem?_append_left (List.getElem?_eq_some_iff.1 hi).1]; exact hi
  have hlk2 : ∀ id, id ∉ cs → look ((s.dels fs).dels cs).st id = look (s.dels fs).st id := fun id hid => by
    show look (delL (s.dels fs).st cs) id = _
    rw [look_delL, if_neg hid]
  obtain ⟨L2, F2, hR3, hrv, hbd⟩ := con_core hR2 (md := md) hnβ rfl (fun i id hi => hL0 i id (hβget i id hi)) (fun id hid => by
      rw [hlk2 id (fun h => hdc id hid id h rfl)]; exact hlive1 id (List.mem_append.2 (.inl hid))) (fun b hb => hb) hBa (fun hm b hb => by
      rcases hb with h | ⟨h, _⟩
      · exact h
      · rw [hm] at h; cases h) hpost (fun i t b hi1 hi2 hL => by
      obtain ⟨id, hid⟩ := hget i hi2
      rw [hL0 i id hid] at hL
      have hidm := List.mem_of_getElem? hid
      have hidc : id ∈ cs := by
        rw [List.getElem?_append_right hi1] at hid
        exact List.mem_of_getElem? hid
      have ho := hR1.own id b t (hlive1 id hidm) hL
      refine ⟨ho.1, ho.2.1, ho.2.2, fun id' t' h3 h4 => ?_⟩
      by_cases hc' : id' ∈ cs
      · rw [show look ((s.dels fs).dels cs).st id' = none from by
          show look (delL (s.dels fs).st cs) id' = none
          rw [look_delL, if_pos hc']] at h3
        cases h3
      · rw [hlk2 id' hc'] at h3
        exact hc' (hR1.inj id' id b t' t h3 (hlive1 id hidm) h4 hL ▸ hidc)) (fun i id x x' hi hx hx' => by
      have hiβ := (List.getElem?_eq_some_iff.1 hi).1
      obtain ⟨o1, o2, g1, g2, g3⟩ := hpo i id (hβget i id hi)
      rw [hlk2 id (fun h => hdc id (List.mem_of_getElem? hi) id h rfl), hout id (fun h => hdis id (List.mem_append.2 (.inl (List.mem_of_getElem? hi))) id h rfl), g1] at hx
      obtain rfl := Option.some.inj hx
      have := likeL_ok (hlk d hpd) i o2 x' (by rw [List.getElem?_take, if_pos hiβ]; exact g2) hx'
      cases g3 <;> cases x' <;> exact this) (fixL_ok (hfx d hpd))
  exact hK _ _ _ ⟨L2, F2, hR3.put (fun x hx => Oper.dok_spec hd x hx) hrv hbd⟩ (k d hpd)

end Mg

/- The abstract state logic, part 29: a list that is built and written no more. No condition. -/
namespace Mg
open Go Go.RowKit
set_option linter.unusedVariables false

variable {P : Program} {T : Tab} {o : Oper} {s : S} {K : S → Prop}

theorem chunk_mem {n sz : Nat} {l : List MC} {r : List MC} (hr : r ∈ chunk n sz l) {x : MC} (hx : x ∈ r) : x ∈ l := by
  obtain ⟨i, hi⟩ := List.getElem?_of_mem hr
  rw [chunk_get] at hi
  split at hi
  · obtain rfl := Option.some.inj hi
    exact List.mem_of_mem_drop (List.mem_of_mem_take hx)
  · cases hi
def MC.nf : MC → MC
  | .nil => .fz []
  | c => c
theorem MC.nf_frz {c : MC} (h : c.frz = true) : c.nf = c := by cases c <;> first | rfl | cases h
theorem RC.nf {st : Sto} {L : Lay} {w : World} {F : FF} {c : MC} {v : Value} (h : RC st L w F c v) : RC st L w F c.nf v := by
  cases c with
  | nil => obtain ⟨a, rfl⟩ := h; exact RF.nilz a 0
  | _ => exact h
theorem MC.nf_bd {c : MC} {n : Nat} (h : c.bd n) : c.nf.bd n := by cases c <;> exact h
@[reducible] def nfR (rows : List (List MC)) : List (List MC) := rows.map fun r => r.map MC.nf
theorem nfR_frz {rows : List (List MC)} (h : AllF rows) : nfR rows = rows := by
  have e : ∀ r ∈ rows, r.map MC.nf = r := fun r hr => by
    have : ∀ c ∈ r, MC.nf c = c := fun c hc => MC.nf_frz (h r hr c hc)
    rw [List.map_congr_left this, List.map_id']
  rw [nfR, List.map_congr_left e, List.map_id']
/-- Nothing, in an object, read as an empty list. -/
theorem Rl.nf {w0 : World} {wr : Wr} {A : Nat → Prop} {L : Lay} {F : FF} {s : S} {a : Act} {w : World} (h : Rl w0 wr A L F s a w) {id : Nat} {rows : List (List MC)} (hid : look s.st id = some (.arr rows)) :
    Rl w0 wr A L F (s.set id (.arr (nfR rows))) a w := by
  have hi : ∀ x : MC, ∀ u, RC (look s.st) L w F x u → RC (look (s.set id (.arr (nfR rows))).st) L w F x u := fun x u hr =>
    RC.set hid (o' := .arr (nfR rows)) (show rows.length ≤ (nfR rows).length by simp [nfR]) (fun _ _ => rfl) (fun _ _ _ _ _ _ hj => hj) hr
  refine ⟨h.os, h.tape, h.output, h.size, h.keep, h.kc, h.pin, h.fa, h.fn, h.fsz, ?_, ?_, ?_, h.sz, ?_, ?_, h.ben, h.df⟩
  · intro i x hx
    by_cases e : i = id
    · subst e
      have : x = .arr (nfR rows) := by simpa [S.set, look_upd, hid] using hx.symm
      subst this
      rcases h.ob i _ hid with ⟨rfl, h1⟩ | ⟨b, t, h1, h2, h3, h4⟩
      · exact .inl ⟨rfl, h1⟩
      · refine .inr ⟨b, t, h1, h2, fun r hr => ?_, fun k r hk j x hj => ?_⟩
        · obtain ⟨r0, hr0, rfl⟩ := List.mem_map.1 hr
          rw [List.length_map]; exact h3 r0 hr0
        · rw [nfR, List.getElem?_map] at hk
          obtain ⟨r0, hr0, rfl⟩ := Option.map_eq_some_iff.1 hk
          rw [List.getElem?_map] at hj
          obtain ⟨x0, hx0, rfl⟩ := Option.map_eq_some_iff.1 hj
          obtain ⟨u, hu, hru⟩ := h4 k r0 hr0 j x0 hx0
          exact ⟨u, hu, (hi x0 u hru).nf⟩
    · rw [look_set_ne e] at hx
      exact (h.ob i x hx).imp (h.bst i x hx).2 rfl (fun k t' hk => rfl) (fun x _ u hr => hi x u hr)
  · intro i k t' h1 h2
    rw [look_set_some hid] at h1
    exact h.own i k t' h1 h2
  · intro i j k t1 t2 h1 h2 h3 h4
    rw [look_set_some hid] at h1 h2
    exact h.inj i j k t1 t2 h1 h2 h3 h4
  · intro t' v hv
    exact (h.env t' v hv).imp (h.ben t' v hv) (fun x _ u hr => hi x u hr)
  · intro i x hx
    by_cases e : i = id
    · subst e
      have : x = .arr (nfR rows) := by simpa [S.set, look_upd, hid] using hx.symm
      subst this
      have hb := h.bst i _ hid
      refine ⟨hb.1, ?_⟩
      have h2 : ∀ r ∈ rows, ∀ c ∈ r, c.bd s.n := hb.2
      show ∀ r ∈ nfR rows, ∀ c ∈ r, c.bd s.n
      intro r hr c hc
      obtain ⟨r0, hr0, rfl⟩ := List.mem_map.1 hr
      obtain ⟨c0, hc0, rfl⟩ := List.mem_map.1 hc
      exact MC.nf_bd (h2 r0 hr0 c0 hc0)
    · rw [look_set_ne e] at hx
      exact h.bst i x hx

theorem freeze_new {rows : List (List MC)} {d : Nat} (hdst : o.dst = some d) (hall : AllF rows)
    (hop : OpOK P o s (fun s1 => s1 = (s.new (.arr rows)).put o.dst (.one (.ref s.n 0 rows.length)))) (k : K (s.put o.dst (.one (.fz rows)))) : OpOK P o s K := by
  intro w0 wr A a w Q K' hg hrel hK
  obtain ⟨L0, F0, h0⟩ := hrel
  refine hop w0 wr A a w Q K' hg ⟨L0, F0, h0⟩ fun s' a' w' hrel' hs' => ?_
  subst hs'
  obtain ⟨L, F, h⟩ := hrel'
  have hlk : look ((s.new (.arr rows)).put o.dst (.one (.ref s.n 0 rows.length))).st s.n = some (.arr rows) := by
    rw [hdst]; simp [S.put, S.new, look_cons]
  obtain ⟨F', h1, hle, hrc, hout, hfz⟩ := frz_all [s.n] h (by simp) (fun id hid => by
    obtain rfl : id = s.n := by simpa using hid
    exact ⟨_, hlk, hall⟩)
  have hslot : RC (look ((s.new (.arr rows)).put o.dst (.one (.ref s.n 0 rows.length))).st) L w' F (.ref s.n 0 rows.length) (a'.tmps.getD d undef) :=
    h.env d (.one (.ref s.n 0 rows.length)) (by rw [hdst]; simp [S.put, S.new, look_cons])
  have hv := hfz s.n (by simp) _ hlk 0 rows.length _ hslot
  rw [List.drop_zero, List.take_of_length_le (Nat.le_refl _)] at hv
  have hbd : (MC.fz rows).bd s.n := trivial
  -- the slot, read as frozen
  have h2 : Rl w0 wr A L F' { (((s.new (.arr rows)).put o.dst (.one (.ref s.n 0 rows.length))).dels [s.n]) with env := (d, .one (.fz rows)) :: (((s.new (.arr rows)).put o.dst (.one (.ref s.n 0 rows.length))).dels [s.n]).env } a' w' := by
    refine ⟨h1.os, h1.tape, h1.output, h1.size, h1.keep, h1.kc, h1.pin, h1.fa, h1.fn, h1.fsz, h1.ob, h1.own, h1.inj, h1.sz, fun t' v hv' => ?_, h1.bst, fun t' v hv' => ?_, h1.df⟩
    · simp only [look_cons] at hv'
      by_cases e : t' = d
      · rw [if_pos e] at hv'
        obtain rfl := Option.some.inj hv'
        subst e
        exact hv
      · rw [if_neg e] at hv'; exact h1.env t' v hv'
    · simp only [look_cons] at hv'
      by_cases e : t' = d
      · rw [if_pos e] at hv'
        obtain rfl := Option.some.inj hv'
        trivial
      · rw [if_neg e] at hv'; exact h1.ben t' v hv'
  refine hK _ a' w' ⟨L, F', h2.weaken (s' := s.put o.dst (.one (.fz rows))) ⟨?_, ?_, ?_⟩ ?_⟩ k
  · rw [hdst]; rfl
  · intro t' v hv'
    rw [hdst] at hv' ⊢
    simp only [S.put, S.dels, S.new, look_cons] at hv' ⊢
    by_cases e : t' = d
    · rw [if_pos e] at hv' ⊢
      obtain rfl := Option.some.inj hv'
      exact ⟨rfl, trivial⟩
    · rw [if_neg e] at hv' ⊢
      rw [if_neg e]
      exact ⟨hv', h0.ben t' v hv'⟩
  · intro id q hq
    have hq : look s.st id = some q := by rw [hdst] at hq; exact hq
    have hb' := h0.bst id q hq
    have hne : id ≠ s.n := Nat.ne_of_lt hb'.1
    refine ⟨?_, by rw [hdst]; exact hb'.1, by rw [hdst]; exact hb'.2⟩
    rw [hdst]
    show look (del ((s.n, Ob.arr rows) :: s.st) s.n) id = some q
    rw [look_del, if_neg hne, look_cons, if_neg hne]; exact hq
  · intro i hi
    rw [hdst]
    exact (h0.pin i hi).2

theorem freeze_newN {rows : List (List MC)} {d : Nat} (hdst : o.dst = some d) (hall : AllF (nfR rows))
    (hop : OpOK P o s (fun s1 => s1 = (s.new (.arr rows)).put o.dst (.one (.ref s.n 0 rows.length)))) (k : K (s.put o.dst (.one (.fz (nfR rows))))) : OpOK P o s K := by
  refine freeze_new (rows := nfR rows) hdst hall ?_ k
  intro w0 wr A a w Q K' hg hrel hK
  refine hop w0 wr A a w Q K' hg hrel fun s' a' w' hrel' hs' => ?_
  subst hs'
  obtain ⟨L, F, h⟩ := hrel'
  have hlk : look ((s.new (.arr rows)).put o.dst (.one (.ref s.n 0 rows.length))).st s.n = some (.arr rows) := by
    rw [hdst]; simp [S.put, S.new, look_cons]
  have hl : (nfR rows).length = rows.length := by simp [nfR]
  refine hK _ a' w' ⟨L, F, Lk.rl ⟨?_, ?_, ?_, fun t => ?_⟩ (h.nf hlk)⟩ rfl
  · rw [hdst]; rfl
  · rw [hdst]; rfl
  · rw [hdst]; simp [S.put, S.new, S.set, upd]
  · rw [hdst, hl]; rfl
theorem r_buildSliceF {t e : TypeId} {parts : Array (Nat × Operand)} {len : Nat} {i ie : TI} {p : Prop} {res : List MC} (hT : TOk P T) (ho : o.op = .buildSlice t len parts) (hd : Oper.dok o s.m = true) {d : Nat} (hdst : o.dst = some d)
    (ht : T t = some i) (hk : i.k = .slice e) (he : T e = some ie) (hl : 0 < len ∧ 0 < ie.size ∧ len * ie.size ≤ 16777216)
    (hf : fillM s T (fun j => some (j * ie.size, ie.size)) (zrep (ie.z.map ZC.mc) len) parts.toList = some (p, res)) (hp : p) (hr : res.length = len * ie.size) (hb : ∀ x ∈ res, x.nf.frz = true)
    (k : K (s.put o.dst (.one (.fz (nfR (chunk len ie.size res)))))) : OpOK P o s K := by
  have hclen : (chunk len ie.size res).length = len := chunk_len _ _ _
  have hall : AllF (nfR (chunk len ie.size res)) := fun r hr x hx => by
    obtain ⟨r0, hr0, rfl⟩ := List.mem_map.1 hr
    obtain ⟨x0, hx0, rfl⟩ := List.mem_map.1 hx
    exact hb x0 (chunk_mem hr0 hx0)
  refine freeze_newN hdst hall ?_ k
  rw [hclen]
  refine r_buildSlice hT ho hd ht hk he hl hf hp hr (fun x hx => ?_) rfl
  have := hb x hx
  cases x <;> first | trivial | cases this
/-- 'append' to nothing, written no more. -/
theorem r_appendF {x y : Operand} {t t2 e : TypeId} {c : MC} {rows2 : List (List MC)} {i ie i2 : TI} (hT : TOk P T)
    (ho : o.op = .call { callee := .builtin .append, args := #[x, y], argTypes := #[t, t2] }) (hd : Oper.dok o s.m = true) {d : Nat} (hdst : o.dst = some d)
    (ht : T t = some i) (hk : i.k = .slice e) (he : T e = some ie) (ht2 : T t2 = some i2) (hk2 : i2.k = .slice e) (hx : evO s x = some (.one .nil)) (hy : evO s y = some (.one c))
    (hr : rowsOf s c = some rows2) (hs2 : ∀ r ∈ rows2, r.length = ie.size) (hsz : rows2.length * ie.bytes ≤ 140737488355328) (hsz' : rows2.length ≤ 140737488355328) (hall : AllF rows2)
    (k : K (s.put o.dst (.one (.fz rows2)))) : OpOK P o s K := by
  refine freeze_new hdst hall ?_ k
  refine r_append (rows := []) (st := s.st) hT ho hd ht hk he ht2 hk2 hx hy rfl (fun _ _ _ h => by cases h) hr (fun _ h => by cases h) hs2 (by simpa using hsz) (by simpa using hsz') ?_
  simp only [List.nil_append, List.length_nil, Nat.zero_add]
  rfl

end Mg

/- The abstract state logic, part 32: copy. No condition. -/
namespace Mg
open Go Go.RowKit
set_option linter.unusedVariables false

variable {P : Program} {T : Tab} {o : Oper} {s : S} {K : S → Prop}

theorem r_copy {x y : Operand} {t t2 e : TypeId} {id n : Nat} {d : MC} {rows rows2 : List (List MC)} {i ie : TI} (hT : TOk P T)
    (ho : o.op = .call { callee := .builtin .copy, args := #[x, y], argTypes := #[t, t2] }) (hd : Oper.dok o s.m = true)
    (ht : T t = some i) (hk : i.k = .slice e) (he : T e = some ie) (hx : evO s x = some (.one (.ref id 0 n))) (hy : evO s y = some (.one d))
    (hlk : look s.st id = some (.arr rows)) (hn : n = rows.length) (hr : rowsOf s d = some rows2) (hlen : rows2.length = rows.length) (hpos : 0 < rows.length)
    (hs : ∀ r ∈ rows, r.length = ie.size) (hs2 : ∀ r ∈ rows2, r.length = ie.size)
    (k : K ((s.set id (.arr rows2)).put o.dst (.one (.sc (.int .i64 rows2.length))))) : OpOK P o s K := by
  intro w0 wr A a w Q K' hg ⟨L, F, hR⟩ hK
  obtain ⟨h1, hb1⟩ := evO_ok hR hx
  obtain ⟨h2, hb2⟩ := evO_ok hR hy
  have h1 := h1.of_one
  have h2 := h2.of_one
  have hu := hT.und_slice ht hk
  obtain ⟨sb, sc, news, hsv, hscap, hfn, hln⟩ := src_cells (P := P) hR h2 hr hs2
  obtain ⟨a0, cap, hbv, hle, hor⟩ := h1.2 rows hlk
  have hne : rows ≠ [] := by rintro rfl; simp at hpos
  rcases hor with hor | ⟨h0, _⟩
  rotate_left
  · omega
  obtain ⟨b, st, hL, rfl, _, _, _⟩ := hor
  rcases hR.ob id _ hlk with ⟨h99, _⟩ | ⟨b', st'', hL', hfree, hs', hw⟩
  · exact absurd h99 hne
  rw [hL] at hL'
  obtain ⟨rfl, rfl⟩ := Prod.mk.inj (Option.some.inj hL')
  have hst' : st = ie.size := by
    obtain ⟨r0, rs, rfl⟩ := List.exists_cons_of_ne_nil hne
    rw [← hs' r0 (by simp), hs r0 (by simp)]
  subst hst'
  have hnl : news.length = rows2.length * ie.size := hfn.1
  have hcells : ∀ j, j < news.length → (w.cell? ⟨b, 0 + j, none⟩).isSome = true := fun j hj => by
    have hz : 0 < ie.size := Nat.pos_of_ne_zero (fun e => by rw [e, Nat.mul_zero] at hnl; omega)
    have hi : j / ie.size < rows.length := (Nat.div_lt_iff_lt_mul hz).2 (by rw [← hlen, ← hnl]; exact hj)
    have hri := List.getElem?_eq_getElem hi
    have hj2 : j % ie.size < (rows[j / ie.size]).length := by rw [hs' _ (List.getElem_mem hi)]; exact Nat.mod_lt _ hz
    obtain ⟨u, hu', _⟩ := hw _ _ hri _ _ (List.getElem?_eq_getElem hj2)
    have : j / ie.size * ie.size + j % ie.size = 0 + j := by have := Nat.div_add_mod' j ie.size; omega
    rw [← this, hu']; rfl
  have hst := run_storeCells_cells (P := P) b 0 news 0 w (by simpa using hcells) (fun j _ => hfree _) hfn.2.1
  simp only [Nat.add_zero] at hst
  have hrun : (execOp a.eval o).run P w = .ok (.value (.int .i64 rows2.length)) (w.setCells b 0 news) := by
    have h3 := hln w rfl
    simp only [execOp, ho, resolve, invoke, builtin, Sem.run_bind, Sem.run_pure, Result.andThen_ok, List.map_toArray, List.map_cons, List.map_nil]
    rw [hbv, hsv]
    rw [hsv] at h3
    have hmin : Nat.min rows2.length n = rows2.length := by rw [hn, ← hlen]; exact Nat.min_self _
    simp [Builtin.copy_, run_underlying hu, hT.size he, Builtin.lenOf, hmin, h3, hst, goInt]
  have hbd' : (Ob.arr rows2).bd s.n := hfn.2.2.1
  have hfz : Free (w.setCells b 0 news) b := fun j => by rw [World.frozen?_setCells]; exact hfree j
  have hstore := hR.store (p := 0) (o' := .arr rows2) hlk hL (by simp [Ob.like, hlen]) hcells hbd' (fun hi => by
    refine .inr ⟨b, ie.size, hL, hfz, hs2, fun i r hri j x hj => ?_⟩
    obtain ⟨u, hu', hru⟩ := hfn.2.2.2 _ j r x hri hj
    refine ⟨u, ?_, hi x u hru⟩
    have hm : i * ie.size + j < news.length := (List.getElem?_eq_some_iff.1 hu').1
    have := World.cell?_setCells_in b news 0 w hcells _ hm
    rw [Nat.zero_add] at this
    rw [this]
    rw [List.getElem?_eq_getElem hm] at hu'
    exact hu')
  unfold Oper.wp
  rw [hrun]
  have hv : RV (look (s.set id (.arr rows2)).st) L (w.setCells b 0 news) F (.one (.sc (.int .i64 rows2.length))) (.int .i64 rows2.length) := ⟨rfl, rfl⟩
  exact hK _ _ _ ⟨L, F, hstore.put (Oper.dok_spec hd) hv trivial⟩ k
end Mg
