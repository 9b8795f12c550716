/- Parts of the abstract state logic and of the walks, one behind the other: Mg20, Mg22, Mg26, Mg27, Mg28. No condition. -/
import Derived.Test.YtedgmfmhilihoaaDoorP10
import Derived.Test.YtedgmfmhilihoaaDoorP6
/- The abstract state logic, part 20: renaming, loops, what a whole code asks for. No condition. -/
namespace Mg
open Go Go.RowKit
set_option linter.unusedVariables false

variable {P : Program} {T : Tab}

def MC.ren (β : Nat → Nat) : MC → MC
  | .ref i o l => .ref (β i) o l
  | .ptr i r o => .ptr (β i) r o
  | c => c
def MV.ren1 (β : Nat → Nat) : MV → MV
  | .one c => .one (c.ren β)
  | .agg cs => .agg (cs.map (MC.ren β))
  | v => v
def MV.ren (β : Nat → Nat) : MV → MV
  | .tup vs => .tup (vs.map (MV.ren1 β))
  | v => v.ren1 β
def ObR (β : Nat → Nat) : Ob → Ob → Prop
  | .box cs', .box cs => cs = cs'.map (MC.ren β)
  | .arr rows', .arr rows => rows' = rows ∧ ∀ r ∈ rows, ∀ c ∈ r, c.ren β = c
  | _, _ => False

/-- s' is part of s, its names sent into s's. -/
structure SubR (β : Nat → Nat) (s' s : S) : Prop where
  m : s'.m = s.m
  env : ∀ t v, look s'.env t = some v → look s.env t = some (v.ren β) ∧ v.bd s'.n
  st : ∀ id o, look s'.st id = some o → (∃ q, look s.st (β id) = some q ∧ ObR β o q) ∧ id < s'.n ∧ o.bd s'.n
  inj : ∀ i j, (look s'.st i).isSome = true → (look s'.st j).isSome = true → β i = β j → i = j

theorem Rl.ren {w0 : World} {wr : Wr} {A : Nat → Prop} {L : Lay} {F : FF} {s : S} {a : Act} {w : World} (h : Rl w0 wr A L F s a w) {β : Nat → Nat} {s' : S} (hs : SubR β s' s) (hk : ∀ i, i < wr.k → β i = i ∧ i < s'.n) : Rl w0 wr A (fun i => L (β i)) F s' a w := by
  have hsome : ∀ id, (look s'.st id).isSome = true → (look s.st (β id)).isSome = true := fun id hid => by
    obtain ⟨o, ho⟩ := Option.isSome_iff_exists.1 hid
    obtain ⟨⟨q, hq, _⟩, _⟩ := hs.st id o ho
    rw [hq]; rfl
  have hi : ∀ c : MC, ∀ u, RC (look s.st) L w F (c.ren β) u → RC (look s'.st) (fun i => L (β i)) w F c u := fun c u hr => by
    cases c with
    | ref id off len =>
      refine ⟨hr.1, fun rows hrw => ?_⟩
      obtain ⟨⟨q, hq, hob⟩, _⟩ := hs.st id _ hrw
      cases q with
      | box cs => exact hob.elim
      | arr rows2 =>
        obtain ⟨rfl, _⟩ := hob
        exact hr.2 rows hq
    | ptr id row off => exact ⟨hr.1, fun hsm => hr.2 (hsome id hsm)⟩
    | _ => exact hr
  have hr1 : ∀ v : MV, ∀ u, RV1 (look s.st) L w F (v.ren1 β) u → RV1 (look s'.st) (fun i => L (β i)) w F v u := fun v u hr => by
    cases v with
    | un => trivial
    | one c => exact hi c u hr
    | agg cs =>
      obtain ⟨arr, rfl, hsz, hc⟩ := hr
      refine ⟨arr, rfl, by simpa using hsz, fun j c hj => ?_⟩
      obtain ⟨u, hu, hru⟩ := hc j (c.ren β) (by simp [hj])
      exact ⟨u, hu, hi c u hru⟩
    | tup vs => exact hr.elim
  refine ⟨h.os, h.tape, h.output, h.size, h.keep, h.kc, fun i hi => ⟨by rw [(hk i hi).1]; exact (h.pin i hi).1, (hk i hi).2⟩, h.fa, h.fn, h.fsz, ?_, ?_, ?_, h.sz.trans hs.m.symm, ?_, ?_, ?_, h.df⟩
  · intro id o ho
    obtain ⟨⟨q, hq, hob⟩, _⟩ := hs.st id o ho
    have hok := h.ob (β id) q hq
    cases o with
    | box cs' =>
      cases q with
      | arr rows => exact hob.elim
      | box cs =>
        obtain rfl : cs = cs'.map (MC.ren β) := hob
        obtain ⟨b, t, hL, hf, hw⟩ := hok
        exact ⟨b, t, hL, hf, fun j c hj => by
          obtain ⟨u, hu, hru⟩ := hw j (c.ren β) (by simp [hj])
          exact ⟨u, hu, hi c u hru⟩⟩
    | arr rows' =>
      cases q with
      | box cs => exact hob.elim
      | arr rows =>
        obtain ⟨rfl, hfix⟩ := hob
        rcases hok with ⟨h1, h2⟩ | ⟨b, t, hL, hf, hlen, hw⟩
        · exact .inl ⟨h1, h2⟩
        · exact .inr ⟨b, t, hL, hf, hlen, fun i r hr j c hj => by
            obtain ⟨u, hu, hru⟩ := hw i r hr j c hj
            refine ⟨u, hu, hi c u ?_⟩
            rw [hfix r (List.mem_of_getElem? hr) c (List.mem_of_getElem? hj)]
            exact hru⟩
  · exact fun id b t h1 h2 => h.own (β id) b t (hsome id h1) h2
  · exact fun i j b t u h1 h2 h3 h4 => hs.inj i j h1 h2 (h.inj (β i) (β j) b t u (hsome i h1) (hsome j h2) h3 h4)
  · intro t v hv
    have hr := h.env t _ (hs.env t v hv).1
    cases v with
    | tup vs =>
      obtain ⟨arr, he, hsz, hc⟩ := hr
      refine ⟨arr, he, by simpa using hsz, fun j x hj => ?_⟩
      obtain ⟨u, hu, hru⟩ := hc j (x.ren1 β) (by simp [hj])
      exact ⟨u, hu, hr1 x u hru⟩
    | un => trivial
    | one c => exact hi c _ hr
    | agg cs => exact hr1 (.agg cs) _ hr
  · exact fun id o ho => (hs.st id o ho).2
  · exact fun t v hv => (hs.env t v hv).2

theorem W.ren {k : Nat} {c : Code} {s s' : S} {Q : Exit → S → Prop} {β : Nat → Nat} (hs : SubR β s' s) (hp : ∀ i, i < k → β i = i ∧ i < s'.n) (h : W k P c s' Q) : W k P c s Q := fun w0 wr A a w hk ⟨L, F, hr⟩ =>
  h w0 wr A a w hk ⟨_, F, hr.ren hs (hk.1 ▸ hp)⟩

/- The same, reckoned. -/
def eqU : Value → Value → Prop
  | .int k a, .int k' b => k = k' ∧ Side (a = b)
  | .bool a, .bool b => Side (a = b)
  | .string a, .string b => Side (a = b)
  | a, b => Side (a = b)
def eqC : MC → MC → Prop
  | .dead, .dead => True
  | .nil, .nil => True
  | .sc a, .sc b => eqU a b
  | .fz a, .fz b => Side (a = b)
  | .ag a, .ag b => Side (a = b)
  | .own a, .own b => Side (a = b)
  | .fptr a, .fptr b => Side (a = b)
  | .aptr a, .aptr b => Side (a = b)
  | .ref i o l, .ref i' o' l' => i = i' ∧ Side (o = o') ∧ Side (l = l')
  | .ptr i o l, .ptr i' o' l' => i = i' ∧ Side (o = o') ∧ Side (l = l')
  | .tr o B u a, .tr o' B' u' b => (o = o' ∧ B = B' ∧ u = u') ∧ Side (a = b)
  | _, _ => False
def eqL : List MC → List MC → Prop
  | [], [] => True
  | a :: as, b :: bs => eqC a b ∧ eqL as bs
  | _, _ => False
def eqV1 : MV → MV → Prop
  | .un, .un => True
  | .one a, .one b => eqC a b
  | .agg a, .agg b => eqL a b
  | .tup a, .tup b => Side (a = b)
  | _, _ => False
theorem eqU_ok {a b : Value} (h : eqU a b) : a = b := by
  unfold eqU at h
  split at h
  · obtain ⟨rfl, ⟨rfl⟩⟩ := h; rfl
  · obtain ⟨rfl⟩ := h; rfl
  · obtain ⟨rfl⟩ := h; rfl
  · exact h.h
theorem eqC_ok {a b : MC} (h : eqC a b) : a = b := by
  unfold eqC at h
  split at h
  · rfl
  · rfl
  · rw [eqU_ok h]
  · rw [h.h]
  · rw [h.h]
  · rw [h.h]
  · rw [h.h]
  · rw [h.h]
  · rw [h.1, h.2.1.h, h.2.2.h]
  · rw [h.1, h.2.1.h, h.2.2.h]
  · obtain ⟨⟨rfl, rfl, rfl⟩, ⟨rfl⟩⟩ := h; rfl
  · exact h.elim
theorem eqL_ok : ∀ {a b : List MC}, eqL a b → a = b
  | [], [], _ => rfl
  | a :: as, b :: bs, h => by rw [eqC_ok h.1, eqL_ok h.2]
  | [], _ :: _, h => h.elim
  | _ :: _, [], h => h.elim
theorem eqV1_ok {a b : MV} (h : eqV1 a b) : a = b := by
  unfold eqV1 at h
  split at h
  · rfl
  · rw [eqC_ok h]
  · rw [eqL_ok h]
  · rw [h.h]
  · exact h.elim

def bdC (n : Nat) : MC → Prop
  | .ref id _ _ => Chk (Nat.blt id n)
  | .ptr id _ _ => Chk (Nat.blt id n)
  | _ => True
def bdL (n : Nat) : List MC → Prop
  | [] => True
  | c :: cs => bdC n c ∧ bdL n cs
theorem bdC_ok {n : Nat} {c : MC} (h : bdC n c) : c.bd n := by cases c <;> first | trivial | exact (by simpa using (show Chk _ from h).h : _ < n)
theorem bdL_ok {n : Nat} : ∀ {cs : List MC}, bdL n cs → ∀ c ∈ cs, c.bd n
  | [], _, c, hc => by simp at hc
  | x :: xs, h, c, hc => by
    rcases List.mem_cons.1 hc with rfl | hc
    · exact bdC_ok h.1
    · exact bdL_ok h.2 c hc

def MC.flat : MC → Bool
  | .ref _ _ _ => false
  | .ptr _ _ _ => false
  | _ => true
theorem MC.flat_bd {c : MC} {n : Nat} (h : c.flat = true) : c.bd n := by cases c <;> first | trivial | (simp [MC.flat] at h)
theorem MC.frz_flat {c : MC} (h : c.frz = true) : c.flat = true := by cases c <;> first | rfl | (simp [MC.frz] at h)

def envC (bl : List (Nat × Nat)) (n : Nat) (env : List (Nat × MV)) : List (Nat × MV) → Prop
  | [] => True
  | (t, v) :: l => (match look env t with
    | some u => match v with
      | .one c => eqV1 (.one (c.ren fun i => (look bl i).getD i)) u ∧ bdC n c
      | .agg cs => eqV1 (.agg (cs.map (MC.ren fun i => (look bl i).getD i))) u ∧ bdL n cs
      | .un => eqV1 .un u
      | .tup _ => False
    | none => False) ∧ envC bl n env l
def stC (bl : List (Nat × Nat)) (n : Nat) (st : List (Nat × Ob)) : List (Nat × Ob) → Prop
  | [] => True
  | (id, o) :: l => (match look st ((look bl id).getD id) with
    | some q => match o, q with
      | .box cs', .box cs => eqL cs (cs'.map (MC.ren fun i => (look bl i).getD i)) ∧ bdL n cs'
      | .arr rows', .arr rows => Side (rows' = rows) ∧ Side (∀ r ∈ rows', ∀ c ∈ r, c.flat = true)
      | _, _ => False
    | none => False) ∧ Chk (Nat.blt id n) ∧ stC bl n st l
/-- s' is part of s. -/
def subC (k : Nat) (bl : List (Nat × Nat)) (s' s : S) : Prop :=
  Chk ((List.range k).all fun i => Nat.beq ((look bl i).getD i) i && Nat.blt i s'.n) ∧ Chk (Nat.beq s'.m s.m) ∧ envC bl s'.n s.env s'.env ∧ stC bl s'.n s.st s'.st ∧ Chk (s'.st.all fun q => s'.st.all fun r => q.1 == r.1 || (look bl q.1).getD q.1 != (look bl r.1).getD r.1)

theorem look_in {α : Type} : ∀ {l : List (Nat × α)} {t : Nat} {i : α}, look l t = some i → (t, i) ∈ l
  | (k, v) :: l, t, i, h => by
    rw [look_cons] at h
    split at h
    · rename_i e; subst e; cases h; exact List.mem_cons_self
    · exact List.mem_cons_of_mem _ (look_in h)

theorem subC_pin {k : Nat} {bl : List (Nat × Nat)} {s' s : S} (h : subC k bl s' s) : ∀ i, i < k → (look bl i).getD i = i ∧ i < s'.n := fun i hi => by
  obtain ⟨⟨h0⟩, _⟩ := h
  have := List.all_eq_true.1 h0 i (List.mem_range.2 hi)
  simp only [Bool.and_eq_true, Nat.beq_eq, Nat.blt_eq] at this
  exact this
theorem subC_ok {k : Nat} {bl : List (Nat × Nat)} {s' s : S} (h : subC k bl s' s) : SubR (fun i => (look bl i).getD i) s' s := by
  obtain ⟨_, ⟨h1⟩, h2, h3, ⟨h4⟩⟩ := h
  have h1 : s'.m = s.m := Nat.eq_of_beq_eq_true h1
  refine ⟨h1, fun t v hv => ?_, fun id o ho => ?_, fun i j hi hj he => ?_⟩
  · have hm := look_in hv
    clear hv
    generalize s'.env = l at h2 hm
    induction l with
    | nil => simp at hm
    | cons x l ih =>
      obtain ⟨t', v'⟩ := x
      obtain ⟨hx, hl⟩ := h2
      rcases List.mem_cons.1 hm with e | hm
      · obtain ⟨rfl, rfl⟩ := Prod.mk.inj e
        split at hx
        · rename_i u hu
          split at hx
          · exact ⟨by rw [hu, ← eqV1_ok hx.1]; rfl, bdC_ok hx.2⟩
          · exact ⟨by rw [hu, ← eqV1_ok hx.1]; rfl, bdL_ok hx.2⟩
          · exact ⟨by rw [hu, ← eqV1_ok hx]; rfl, trivial⟩
          · exact hx.elim
        · exact hx.elim
      · exact ih hl hm
  · have hm := look_in ho
    clear ho h4
    generalize s'.st = l at h3 hm
    induction l with
    | nil => simp at hm
    | cons x l ih =>
      obtain ⟨t', v'⟩ := x
      obtain ⟨hx, ⟨hlt⟩, hl⟩ := h3
      rcases List.mem_cons.1 hm with e | hm
      · obtain ⟨rfl, rfl⟩ := Prod.mk.inj e
        have hlt : id < s'.n := by simpa using hlt
        split at hx
        · rename_i q hq
          split at hx
          · exact ⟨⟨_, hq, eqL_ok hx.1⟩, hlt, bdL_ok hx.2⟩
          · obtain ⟨⟨rfl⟩, ⟨hf⟩⟩ := hx
            refine ⟨⟨_, hq, rfl, fun r hr c hc => ?_⟩, hlt, fun r hr c hc => MC.flat_bd (hf r hr c hc)⟩
            have := hf r hr c hc
            cases c <;> first | rfl | (simp [MC.flat] at this)
          · exact hx.elim
        · exact hx.elim
      · exact ih hl hm
  · obtain ⟨x, hx⟩ := Option.isSome_iff_exists.1 hi
    obtain ⟨y, hy⟩ := Option.isSome_iff_exists.1 hj
    simp only [List.all_eq_true, Bool.or_eq_true, beq_iff_eq, bne_iff_ne] at h4
    rcases h4 _ (look_in hx) _ (look_in hy) with h | h
    · exact h
    · exact absurd he h

theorem tf {p : Prop} (h : true = false) : p := Bool.noConfusion h
theorem ft {p : Prop} (h : false = true) : p := Bool.noConfusion h
theorem tt {p : Prop} (h : p) (_ : true = true) : p := h
theorem ff {p : Prop} (h : p) (_ : false = false) : p := h
theorem sLe {n m : Nat} (h : Nat.ble n m = true) : Side (n ≤ m) := ⟨Nat.le_of_ble_eq_true h⟩
theorem sLeEq {a b c d : Nat} (h : Nat.ble a b = true) (h2 : c = d) : Side (a ≤ b ∧ c = d) := ⟨Nat.le_of_ble_eq_true h, h2⟩
theorem sAnd {p q : Prop} (h1 : p) (h2 : q) : Side (p ∧ q) := ⟨h1, h2⟩
theorem sRow {n : Int} {rows : List (List MC)} {row : List MC} {k : Nat} (h0 : 0 ≤ n) (h : rows[n.toNat]? = some row) (hl : row.length = k) : Side (0 ≤ n ∧ rows[n.toNat]? = some row ∧ row.length = k) := ⟨h0, h, hl⟩
theorem row_at {α : Type} [Inhabited α] (xs : List α) (f : α → List MC) {i : Nat} (h : i < xs.length) : (xs.map f)[((i : Int)).toNat]? = some (f (xs.getD i default)) := by
  simp [List.getElem?_map, List.getD_eq_getElem?_getD, List.getElem?_eq_getElem h]
theorem wrapi {n : Int} (h1 : -9223372036854775808 ≤ n) (h2 : n ≤ 9223372036854775807) : IntKind.i64.wrap n = n := by
  unfold IntKind.wrap
  simp [IntKind.signed, IntKind.bits]
  omega

/-- An order that a hint gives. -/
def ordH : List MC → List Nat
  | .sc (.int _ n) :: l => n.toNat :: ordH l
  | _ => []
/-- The first region of a piece of code. -/
def fstR : Code → Option Nat
  | .region id _ _ => some id
  | .seq x _ => fstR x
  | .block _ c => fstR c
  | .loop c => fstR c
  | _ => none
/-- Are new hints wanted here? -/
def askR (hs : List (Nat × Hint)) (c : Code) : Bool := match fstR c with
  | some id => (look hs (800000 + id)).isSome
  | none => false
/-- What the code asks for. Loops stay as they are. -/
def vc (k : Nat) (P : Program) (T : Tab) : Code → List (Nat × Hint) → S → (Exit → S → Prop) → Prop
  | .skip, hs, s, Q => Q .normal s
  | .exit id, hs, s, Q => Q (.exit id) s
  | .ret, hs, s, Q => match (look hs 700000).isSome with
    | true => W k P .ret s Q
    | false => Q .ret s
  | .seq x y, hs, s, Q => match askR hs x with
    | true => W k P (.seq x y) s Q
    | false => vc k P T x hs s (thn (fun s' => vc k P T y hs s' Q) Q)
  | .block id c, hs, s, Q => vc k P T c hs s (blk id Q)
  | .cond c x y, hs, s, Q => match evO s c with
    | some (.one (.sc (.bool b))) => (b = true → vc k P T x hs s Q) ∧ (b = false → vc k P T y hs s Q)
    | _ => False
  | .region _ ops false, hs, s, Q => vcOps P T hs ops ops.toList s fun s' => Q .normal s'
  | .region id ops true, hs, s, Q => match hintOf hs (some (940000 + id)) with
    | some (.row cs) => Chk (dchk hs ops ((ordH cs).headD 0)) ∧ vcOps P T hs ops ops.toList s fun s' => Q .normal s'
    | _ => match hintOf hs (some (900000 + id)) with
      | some (.row cs) => match hintOf hs (some (950000 + id)) with
        | some (.row fc) => Chk (gchk hs ops (ordH fc) (ordH cs)) ∧ vcF P T hs ops (ordH fc) (ordH cs) [] s fun s' => Q .normal s'
        | _ => Chk (gchk hs ops [] (ordH cs)) ∧ vcF P T hs ops [] (ordH cs) [] s fun s' => Q .normal s'
      | _ => Chk (dchk hs ops (ops.toList.takeWhile fun o => quiet (hintOf hs o.dst) o).length) ∧ vcOps P T hs ops ops.toList s fun s' => Q .normal s'
  | c, hs, s, Q => W k P c s Q

theorem vc_ok {k : Nat} (hT : TOk P T) (hm : P.follows .mixedOrders = true) : ∀ (c : Code) {hs : List (Nat × Hint)} (s : S) (Q : Exit → S → Prop), vc k P T c hs s Q → W k P c s Q := by
  intro c
  induction c with
  | seq x y hx hy =>
    intro hs s Q h
    simp only [vc] at h
    split at h
    · exact h
    · refine W.seq fun K hK => ?_
      refine (hx s _ h).mono fun e s' h' => ?_
      cases e <;> first | exact hK s' (hy s' Q h') | exact h'
  | block id c hc => intro hs s Q h; exact W.block (hc s _ h)
  | cond c x y hx hy =>
    intro hs s Q h
    simp only [vc] at h
    split at h
    · rename_i b he
      refine W.cond he ?_
      cases b
      · exact hy s Q (h.2 rfl)
      · exact hx s Q (h.1 rfl)
    · exact h.elim
  | region id ops d =>
    intro hs s Q h
    cases d
    · exact W.region (vcOps_ok hT _ _ _ h)
    · simp only [vc] at h
      split at h
      · exact W.drawn hs _ hT hm h.1.h h.2
      · split at h
        · split at h
          · exact W.drawnF hs _ _ hT hm h.1.h h.2
          · exact W.drawnF hs _ _ hT hm h.1.h h.2
        · exact W.drawn hs _ hT hm h.1.h h.2
  | skip => intro hs s Q h; exact W.skip h
  | exit id => intro hs s Q h; exact W.exit h
  | ret =>
    intro hs s Q h
    simp only [vc] at h
    split at h
    · exact h
    · exact W.ret h
  | _ => intro hs s Q h; exact h

/-- On with new hints. -/
theorem W.go {k : Nat} {c : Code} {s : S} {Q : Exit → S → Prop} (hs : List (Nat × Hint)) (hT : TOk P T) (hm : P.follows .mixedOrders = true) (h : vc k P T c hs s Q) : W k P c s Q := vc_ok hT hm c s Q h

/-- A loop whose head's states are a family. -/
theorem W.loopC {k : Nat} {D : Type} (hs : D → List (Nat × Hint)) (hT : TOk P T) (hm : P.follows .mixedOrders = true) {c : Code} {s : S} {Q : Exit → S → Prop} (st : D → S) (μ : D → Nat) (inv : D → Prop) (d0 : D) (bl : List (Nat × Nat)) (h0 : inv d0) (hsub : subC k bl (st d0) s)
    (h : ∀ d, inv d → vc k P T c (hs d) (st d) (thn (fun s' => ∃ (d' : D) (bl : List (Nat × Nat)), μ d' < μ d ∧ inv d' ∧ subC k bl (st d') s') Q)) : W k P (.loop c) s Q := by
  refine W.loop (fun n s' => ∃ d bl, n = μ d ∧ inv d ∧ subC k bl (st d) s') (μ d0) ⟨d0, bl, rfl, h0, hsub⟩ fun n s' ⟨d, bl, hn, hi, hsb⟩ => ?_
  refine W.ren (subC_ok hsb) (subC_pin hsb) ((vc_ok hT hm _ _ _ (h d hi)).mono fun e s'' hq => ?_)
  cases e with
  | normal =>
    obtain ⟨d', bl', h1, h2, h3⟩ := hq
    exact ⟨μ d', hn ▸ h1, d', bl', rfl, h2, h3⟩
  | _ => exact hq

/-- A FUNCTION's CONTRACT out of its reckoning. -/
theorem Pure.vc {sh : Bool} {f : Nat} {fn : Func} {c : Code} {args : List MV} {r : MV} (hs : List (Nat × Hint)) (hT : TOk P T) (hm : P.follows .mixedOrders = true) (hf : P.funcs[f]? = some fn) (hn : (fn.name == "runtime.NumGoroutine") = false) (hb : fn.body = some c) (hl : Nat.ble args.length fn.ntmps = true)
    (h : fS (S.start fn.ntmps args) fun s => vc 0 P T c hs s (endE T sh fn r)) : Pure P sh f args r := by
  rw [fS_eq] at h
  refine Pure.of hT hf hn hb (Nat.le_of_ble_eq_true hl) ((vc_ok hT hm _ _ _ h).mono fun e s h' => ?_)
  cases e <;> first | exact ⟨.inl rfl, endF_ok h'⟩ | exact ⟨.inr rfl, endF_ok h'⟩ | exact h'.elim

end Mg

/- The abstract state logic, part 22: lists that fill up, lists that are compared. No condition. -/
namespace Mg
open Go Go.RowKit
set_option linter.unusedVariables false
set_option linter.unusedSectionVars false

section
variable {α : Type} [Inhabited α]

/-- A made list, filled so far. -/
def part (c : α → List MC) (z : List MC) (xs : List α) (i : Nat) : List (List MC) := (xs.take i).map c ++ List.replicate (xs.length - i) z

theorem getD_get {xs : List α} {i : Nat} (h : i < xs.length) : xs.getD i default = xs[i] := by
  simp [List.getD_eq_getElem?_getD, List.getElem?_eq_getElem h]
theorem part_len {c : α → List MC} {z : List MC} {xs : List α} {i : Nat} (h : i ≤ xs.length) : (part c z xs i).length = xs.length := by
  simp [part]; omega
theorem part_zero {c : α → List MC} {z : List MC} {xs : List α} : part c z xs 0 = List.replicate xs.length z := by simp [part]
theorem part_all {c : α → List MC} {z : List MC} {xs : List α} {i : Nat} (h : xs.length ≤ i) : part c z xs i = xs.map c := by
  have : xs.length - i = 0 := by omega
  simp [part, this, List.take_of_length_le h]
theorem part_get {c : α → List MC} {z : List MC} {xs : List α} {i : Nat} (h : i < xs.length) : (part c z xs i).getD i [] = z := by
  have h1 : ((xs.take i).map c).length = i := by simp; omega
  unfold part
  rw [List.getD_eq_getElem?_getD, List.getElem?_append_right (by omega), h1, Nat.sub_self, List.getElem?_replicate, if_pos (by omega)]
  rfl
theorem part_set {c : α → List MC} {z : List MC} {xs : List α} {i : Nat} (h : i < xs.length) : (part c z xs i).set i (c (xs.getD i default)) = part c z xs (i + 1) := by
  have h1 : ((xs.take i).map c).length = i := by simp; omega
  unfold part
  rw [List.set_append_right _ _ (by omega), h1, Nat.sub_self]
  obtain ⟨m, hm⟩ : ∃ m, xs.length - i = m + 1 := ⟨xs.length - i - 1, by omega⟩
  have hm' : xs.length - (i + 1) = m := by omega
  rw [hm, hm', List.replicate_succ, List.set_cons_zero, List.take_succ_eq_append_getElem h, List.map_append, getD_get h]
  simp
theorem part_flat {c : α → List MC} {z : List MC} {xs : List α} {i : Nat} (hc : ∀ x, (c x).all MC.flat = true) (hz : z.all MC.flat = true) : ∀ r ∈ part c z xs i, ∀ x ∈ r, x.flat = true := fun r hr x hx => by
  unfold part at hr
  rcases List.mem_append.1 hr with h | h
  · obtain ⟨y, _, rfl⟩ := List.mem_map.1 h
    exact List.all_eq_true.1 (hc y) x hx
  · rw [(List.mem_replicate.1 h).2] at hx
    exact List.all_eq_true.1 hz x hx
theorem map_frz {c : α → List MC} {xs : List α} (hc : ∀ x, (c x).all MC.frz = true) : ∀ r ∈ xs.map c, ∀ x ∈ r, x.frz = true := fun r hr x hx => by
  obtain ⟨y, _, rfl⟩ := List.mem_map.1 hr
  exact List.all_eq_true.1 (hc y) x hx

theorem eq_upto {xs ys : List α} {i : Nat} (hl : xs.length = ys.length) (hi : i < xs.length) (hp : xs.take i = ys.take i) (he : xs.getD i default = ys.getD i default) : xs.take (i + 1) = ys.take (i + 1) := by
  have e : xs[i] = ys[i]'(by omega) := by rwa [getD_get hi, getD_get (by omega)] at he
  rw [List.take_succ_eq_append_getElem hi, List.take_succ_eq_append_getElem (by omega), hp, e]
theorem eq_all {xs ys : List α} {i : Nat} (hl : xs.length = ys.length) (hi : xs.length ≤ i) (hp : xs.take i = ys.take i) : xs = ys := by
  rwa [List.take_of_length_le hi, List.take_of_length_le (by omega)] at hp

/- The steps of a loop that fills a made list. -/
theorem sPart0 {c : α → List MC} {z : List MC} {xs : List α} {n : Nat} (h : n = xs.length) : Side (part c z xs 0 = List.replicate n z) := ⟨by rw [part_zero, h]⟩
theorem sFlat {c : α → List MC} {z : List MC} {xs : List α} {i : Nat} (hc : ∀ x, (c x).all MC.flat = true) (hz : z.all MC.flat = true) : Side (∀ r ∈ part c z xs i, ∀ x ∈ r, x.flat = true) := ⟨part_flat hc hz⟩
theorem sIdx {c : α → List MC} {z : List MC} {xs : List α} {i n k : Nat} (h : i < xs.length) (hn : n = xs.length) (hz : z.length = k) :
    Side ((0 ≤ (i : Int) ∧ (i : Int) < (n : Int)) ∧ 0 + ((i : Int)).toNat < (part c z xs i).length ∧ ((part c z xs i).getD (0 + ((i : Int)).toNat) []).length = k) := by
  refine ⟨⟨by omega, by omega⟩, ?_, ?_⟩
  · rw [part_len (by omega)]; simp; omega
  · simp only [Int.toNat_natCast, Nat.zero_add, part_get h, hz]
theorem sPut {c : α → List MC} {z cs : List MC} {xs : List α} {i k : Nat} (h : i < xs.length) (hz : Nat.ble cs.length z.length = true) (hk : cs.length = k) :
    Side ((0 + ((i : Int)).toNat < (part c z xs i).length ∧ 0 + cs.length ≤ ((part c z xs i).getD (0 + ((i : Int)).toNat) []).length) ∧ cs.length = k) := by
  refine ⟨⟨?_, ?_⟩, hk⟩
  · rw [part_len (by omega)]; simp; omega
  · simp only [Int.toNat_natCast, Nat.zero_add, part_get h]; exact Nat.le_of_ble_eq_true hz
theorem sPartS {c : α → List MC} {z cs : List MC} {xs : List α} {i : Nat} (h : i < xs.length) (hp : putAt z 0 cs = c (xs.getD i default)) :
    Side (part c z xs (i + 1) = (part c z xs i).set (0 + ((i : Int)).toNat) (putAt ((part c z xs i).getD (0 + ((i : Int)).toNat) []) 0 cs)) := by
  refine ⟨?_⟩
  simp only [Int.toNat_natCast, Nat.zero_add, part_get h, hp, part_set h]
theorem part_end {c : α → List MC} {z : List MC} {xs : List α} {i n : Nat} (h : xs.length ≤ i) (hn : n = xs.length) : ((part c z xs i).drop 0).take n = xs.map c := by
  rw [part_all h, List.drop_zero, List.take_of_length_le (by simp [hn])]
end

theorem wrap_succ {i n : Nat} (h : i < n) (hn : n ≤ 9223372036854775807) : ((i + 1 : Nat) : Int) = IntKind.i64.wrap ((i : Int) + 1) := by
  rw [wrapi] <;> omega
theorem sAll {T : Tab} {l : List (Nat × Nat)} (h : (l.all fun g => (T g.2).isSome) = true) : Side (True ∧ ∀ g ∈ l, (T g.2).isSome = true) :=
  ⟨trivial, fun g hg => List.all_eq_true.1 h g hg⟩
theorem sBld {T : Tab} {a : Prop} {l : List (Nat × Nat)} (h1 : a) (h : (l.all fun g => (T g.2).isSome) = true) : Side (a ∧ ∀ g ∈ l, (T g.2).isSome = true) :=
  ⟨h1, fun g hg => List.all_eq_true.1 h g hg⟩
theorem sBS {a : Prop} {sz k m n : Nat} {cs : List MC} (h1 : a) (h2 : Nat.blt 0 sz = true) (h3 : Nat.ble (k * sz) 16777216 = true) (h4 : cs.length = n) (h5 : cs.all MC.frz = true) : Side (a ∧ (0 < sz ∧ k * sz ≤ 16777216) ∧ cs.length = n ∧ ∀ x ∈ cs, x.bd m) :=
  ⟨h1, ⟨Nat.lt_of_lt_of_le (Nat.lt_of_lt_of_le (Nat.zero_lt_one) (Nat.le_of_ble_eq_true h2)) (Nat.le_refl _), Nat.le_of_ble_eq_true h3⟩, h4, fun x hx => MC.bd_frz (List.all_eq_true.1 h5 x hx)⟩
theorem sBSF {a : Prop} {sz k n : Nat} {cs : List MC} (h1 : a) (h2 : Nat.blt 0 sz = true) (h3 : Nat.ble (k * sz) 16777216 = true) (h4 : cs.length = n) (h5 : (cs.all fun x => x.nf.frz) = true) : Side (a ∧ (0 < sz ∧ k * sz ≤ 16777216) ∧ cs.length = n ∧ ∀ x ∈ cs, x.nf.frz = true) :=
  ⟨h1, ⟨Nat.lt_of_lt_of_le (Nat.lt_of_lt_of_le (Nat.zero_lt_one) (Nat.le_of_ble_eq_true h2)) (Nat.le_refl _), Nat.le_of_ble_eq_true h3⟩, h4, fun x hx => List.all_eq_true.1 h5 x hx⟩
theorem sF1 {rows : List (List MC)} (h : (rows.all fun r => r.all MC.frz) = true) : Side (AllF rows ∧ True) :=
  ⟨fun r hr c hc => List.all_eq_true.1 (List.all_eq_true.1 h r hr) c hc, trivial⟩
end Mg

/- The abstract state logic, part 26: a contract with objects out of the body. No condition. -/
namespace Mg
open Go Go.RowKit
set_option linter.unusedVariables false

variable {P : Program} {T : Tab}

def obFrom : Nat → List Ob → List (Nat × Ob)
  | _, [] => []
  | k, o :: os => (k, o) :: obFrom (k + 1) os
theorem look_obFrom : ∀ (os : List Ob) (k j : Nat), look (obFrom k os) j = if k ≤ j then os[j - k]? else none
  | [], k, j => by simp [obFrom]
  | x :: xs, k, j => by
    rw [obFrom, look_cons, look_obFrom xs (k + 1) j]
    by_cases e : j = k
    · subst e; simp
    · by_cases h : k ≤ j
      · rw [if_neg e, if_pos (by omega), if_pos h, show j - k = (j - (k + 1)) + 1 by omega, List.getElem?_cons_succ]
      · rw [if_neg e, if_neg (by omega), if_neg h]
theorem look_ob (os : List Ob) : look (obFrom 0 os) = nth os := funext fun j => by rw [look_obFrom]; simp [nth]
def mvFrom : Nat → List MV → List (Nat × MV)
  | _, [] => []
  | k, x :: xs => (k, x) :: mvFrom (k + 1) xs
theorem look_mvFrom : ∀ (xs : List MV) (k j : Nat), look (mvFrom k xs) j = if k ≤ j then xs[j - k]? else none
  | [], k, j => by simp [mvFrom]
  | x :: xs, k, j => by
    rw [mvFrom, look_cons, look_mvFrom xs (k + 1) j]
    by_cases e : j = k
    · subst e; simp
    · by_cases h : k ≤ j
      · rw [if_neg e, if_pos (by omega), if_pos h, show j - k = (j - (k + 1)) + 1 by omega, List.getElem?_cons_succ]
      · rw [if_neg e, if_neg (by omega), if_neg h]

def S.from (m : Nat) (args : List MV) (os : List Ob) : S := ⟨m, os.length, mvFrom 0 args, obFrom 0 os⟩
def tmps0 (m : Nat) (vals : Array Value) : Act := { tmps := vals ++ Array.replicate (m - vals.size) undef, defers := [] }
theorem tmps0_get {m : Nat} {vals : Array Value} {t : Nat} {u : Value} (h : vals[t]? = some u) : (tmps0 m vals).tmps.getD t undef = u := by
  have hlt : t < vals.size := (Array.getElem?_eq_some_iff.1 h).1
  have h2 : vals[t] = u := (Array.getElem?_eq_some_iff.1 h).2
  simp [tmps0, Array.getElem?_append_left hlt, hlt, h2]

def wrOf (L : Lay) (k : Nat) (A : Nat → Prop) : Wr := ⟨fun b => ∃ i t, i < k ∧ L i = some (b, t), k, L, A⟩

theorem from_rel {w : World} {N A : Nat → Prop} {L : Lay} {vals : Array Value} {args : List MV} {os : List Ob} {m : Nat} (hs : vals.size = args.length) (hm : args.length ≤ m) (hA : ∀ b, A b → b < w.heap.size) (hN : ∀ b, N b → A b)
    (hobs : ObsOK w ⟨N, A⟩ L os) (h : ∀ (j : Nat) (x : MV), args[j]? = some x → ∃ v : Value, vals[j]? = some v ∧ RV (nth os) L w ⟨N, A⟩ x v ∧ x.bd os.length) :
    Rl w (wrOf L os.length N) A L ⟨N, A⟩ (S.from m args os) (tmps0 m vals) w := by
  have hl : look (S.from m args os).st = nth os := look_ob os
  have hlt : ∀ i o, nth os i = some o → i < os.length := fun i o ho => (List.getElem?_eq_some_iff.1 ho).1
  have hsm : ∀ i, (nth os i).isSome = true → i < os.length := fun i hi => by
    obtain ⟨o, ho⟩ := Option.isSome_iff_exists.1 hi; exact hlt i o ho
  refine ⟨rfl, rfl, rfl, Nat.le_refl _, fun _ _ _ => rfl, fun _ _ _ h => h, fun i hi => ⟨rfl, hi⟩, rfl, fun b hb => .inr (.inr hb), fun b hb => hb.elim (fun h => hA b (hN b h)) (hA b), ?_, ?_, ?_, ?_, ?_, ?_, ?_, rfl⟩
  · intro i o ho; rw [hl] at ho ⊢; exact hobs.ob i o ho
  · intro i b t h1 h2
    rw [hl] at h1
    have := hobs.nf i b t (hsm i h1) h2
    exact ⟨this.1, this.2, .inr ⟨i, t, hsm i h1, h2⟩⟩
  · intro i j b t u h1 h2 h3 h4
    rw [hl] at h1 h2
    exact hobs.inj i j b t u (hsm i h1) (hsm j h2) h3 h4
  · simp [tmps0, S.from]; omega
  · intro t v hv
    have hv : look (mvFrom 0 args) t = some v := hv
    rw [look_mvFrom] at hv
    obtain ⟨u, hu, hr, _⟩ := h t v (by simpa using hv)
    rw [hl, tmps0_get hu]
    exact hr
  · intro i o ho
    rw [hl] at ho
    exact ⟨hlt i o ho, hobs.bd o (List.mem_of_getElem? ho)⟩
  · intro t v hv
    have hv : look (mvFrom 0 args) t = some v := hv
    rw [look_mvFrom] at hv
    obtain ⟨u, _, _, hb⟩ := h t v (by simpa using hv)
    exact hb

/- ------------------------------------------------ the end -/
def frzC (s : S) (fs : List Nat) : MC → MC
  | .ref id off len => match fs.contains id, look s.st id with
    | true, some (.arr rows) => .fz ((rows.drop off).take len)
    | _, _ => .ref id off len
  | .nil => .fz []
  | c => c
def frzV (s : S) (fs : List Nat) : MV → MV
  | .one c => .one (frzC s fs c)
  | .agg cs => .agg (cs.map (frzC s fs))
  | v => v
def flatV : MV → Bool
  | .one _ => true
  | .agg _ => true
  | _ => false
def outV (T : Tab) (s : S) (rs : List ResultVar) : Option (Prop × List MV) := resL T s rs
/-- A result, as the slots of the last state. -/
def resOf : MV → List MV
  | .tup xs => xs
  | x => [x]
def bdV1 (n : Nat) : MV → Prop
  | .one c => bdC n c
  | .agg cs => bdL n cs
  | _ => False
def bdVs (n : Nat) : List MV → Prop
  | [] => True
  | v :: vs => bdV1 n v ∧ bdVs n vs
theorem bdVs_ok {n : Nat} : ∀ {vs : List MV}, bdVs n vs → ∀ v ∈ vs, v.bd n ∧ flatV v = true
  | [], _, v, hv => by simp at hv
  | x :: xs, h, v, hv => by
    rcases List.mem_cons.1 hv with rfl | hv
    · have h1 := h.1
      cases v <;> first | exact ⟨bdC_ok h1, rfl⟩ | exact ⟨bdL_ok h1, rfl⟩ | exact h1.elim
    · exact bdVs_ok h.2 v hv

theorem frzV_ok {w : World} {L : Lay} {F F' : FF} {s : S} {fs : List Nat} (hrc : ∀ x u, RC (look s.st) L w F x u → RC (look (s.dels fs).st) L w F' x u)
    (hfz : ∀ id ∈ fs, ∀ rows, look s.st id = some (.arr rows) → ∀ off len v, RC (look s.st) L w F (.ref id off len) v → RF w F'.n (.fz ((rows.drop off).take len)) v) {x : MV} {u : Value} (hf : flatV x = true) (h : RV (look s.st) L w F x u) :
    RV1 (look (s.dels fs).st) L w F' (frzV s fs x) u := by
  have hc : ∀ c u, RC (look s.st) L w F c u → RC (look (s.dels fs).st) L w F' (frzC s fs c) u := fun c u hr => by
    cases c <;> try exact hrc _ u hr
    case ref id off len =>
      simp only [frzC]
      split
      · rename_i rows h1 h2
        exact hfz id (by simpa using h1) rows h2 off len u hr
      · exact hrc _ u hr
    case nil =>
      obtain ⟨a, rfl⟩ := hr
      exact RF.nilz a 0
  cases x with
  | one c => exact hc c u h
  | agg cs =>
    obtain ⟨arr, rfl, h1, h2⟩ := h
    refine ⟨arr, rfl, by simpa using h1, fun j c hj => ?_⟩
    rw [List.getElem?_map] at hj
    obtain ⟨d, hd, rfl⟩ := Option.map_eq_some_iff.1 hj
    obtain ⟨v, hv, hr⟩ := h2 j d hd
    exact ⟨v, hv, hc d v hr⟩
  | _ => simp [flatV] at hf

/-- What the last state must be, reckoned. -/
def conEnd (T : Tab) (k : Nat) (fn : Func) {D : Type} (p : D → Prop) (r : D → MV) (os' : D → List Ob) (s : S) : Prop :=
  match resL T s fn.results.toList with
  | some (q, vs) => Side q ∧ ∃ (d : D) (bl : List (Nat × Nat)) (fs : List Nat), p d ∧ Chk (decide fs.Nodup) ∧ (match passF s fs with
    | some qf => Side qf
    | none => False) ∧ bdVs s.n (vs.map (frzV s fs)) ∧ Chk (Nat.ble vs.length s.m && Nat.ble k (os' d).length && Nat.beq (resOf (r d)).length vs.length && (match r d with | .tup _ => !(Nat.beq vs.length 1) | _ => true)) ∧ bdVs (os' d).length (resOf (r d)) ∧
      subC k bl ⟨s.m, (os' d).length, mvFrom 0 (resOf (r d)), obFrom 0 (os' d)⟩ ⟨s.m, s.n, mvFrom 0 (vs.map (frzV s fs)), delL s.st fs⟩
  | none => False

def conE (T : Tab) (k : Nat) (fn : Func) {D : Type} (p : D → Prop) (r : D → MV) (os' : D → List Ob) : Exit → S → Prop
  | .normal, s => conEnd T k fn p r os' s
  | .ret, s => conEnd T k fn p r os' s
  | _, _ => False

theorem Rl.unpin {w0 : World} {wr : Wr} {A : Nat → Prop} {L : Lay} {F : FF} {s : S} {a : Act} {w : World} (h : Rl w0 wr A L F s a w) {k : Nat} (hk : k ≤ wr.k) : Rl w0 { wr with k := k } A L F s a w :=
  ⟨h.os, h.tape, h.output, h.size, h.keep, h.kc, fun i hi => h.pin i (Nat.lt_of_lt_of_le hi hk), h.fa, h.fn, h.fsz, h.ob, h.own, h.inj, h.sz, h.env, h.bst, h.ben, h.df⟩

theorem conEnd_ok {w : World} {N A : Nat → Prop} {L L1 : Lay} {F : FF} {s : S} {a : Act} {w' : World} {m k : Nat} (hkm : k ≤ m) (hT : TOk P T) (h : Rl w (wrOf L m N) A L1 F s a w') {fn : Func} {D : Type} {p : D → Prop} {r : D → MV} {os' : D → List Ob} (he : conEnd T k fn p r os' s) :
    ∃ v, (results fn a.tmps).run P w' = .ok v w' ∧ ∃ (d : D) (L' : Lay) (F' : Nat → Prop), p d ∧ ConPost w N A L m k (r d) (os' d) v w' L' F' := by
  unfold conEnd at he
  split at he
  case h_2 => exact he.elim
  rename_i q vs hres
  obtain ⟨⟨hq⟩, d, bl, fs, hpd, ⟨hnd⟩, hpf, hbd, ⟨hchk⟩, hbr, hsub⟩ := he
  split at hpf
  case h_2 => exact hpf.elim
  rename_i qf hpf'
  simp only [Bool.and_eq_true] at hchk
  obtain ⟨⟨⟨hc1, hc2⟩, hc3⟩, hc4⟩ := hchk
  have hc1 := Nat.le_of_ble_eq_true hc1
  have hc2 := Nat.le_of_ble_eq_true hc2
  have hc3 := Nat.eq_of_beq_eq_true hc3
  obtain ⟨us, hus, hlen, hr⟩ := resL_ok hT h hres hq
  have harr : (results fn a.tmps).run P w' = .ok (if h : us.toArray.size = 1 then us.toArray[0] else .tuple us.toArray) w' := by
    rw [results_list]
    have : ∀ arr : Array ResultVar, arr.mapM (resS a.tmps) = List.toArray <$> arr.toList.mapM (resS a.tmps) := fun arr => by
      cases arr; exact List.mapM_toArray
    rw [Sem.run_bind, this, Sem.run_map, hus]
    rfl
  refine ⟨_, harr, d, ?_⟩
  obtain ⟨F2, hR2, hle, hrc, hout, hfz⟩ := frz_all fs h (of_decide_eq_true hnd) (passF_ok hpf' hpf.h)
  have hvb := bdVs_ok hbd
  -- the last state, with the results in the slots
  have hR3 : Rl w (wrOf L m N) A L1 F2 ⟨s.m, s.n, mvFrom 0 (vs.map (frzV s fs)), delL s.st fs⟩ (tmps0 s.m us.toArray) w' := by
    refine ⟨hR2.os, hR2.tape, hR2.output, hR2.size, hR2.keep, hR2.kc, hR2.pin, hR2.fa, hR2.fn, hR2.fsz, hR2.ob, hR2.own, hR2.inj, ?_, ?_, hR2.bst, ?_, rfl⟩
    · simp [tmps0]; omega
    · intro t v hv
      have hv : look (mvFrom 0 (vs.map (frzV s fs))) t = some v := hv
      rw [look_mvFrom] at hv
      obtain ⟨x, hx, rfl⟩ := Option.map_eq_some_iff.1 (by simpa using hv : (vs[t]?).map (frzV s fs) = some v)
      obtain ⟨u, hu, hru⟩ := hr t x hx
      have hfl : flatV x = true := by
        have := (hvb (frzV s fs x) (List.mem_map.2 ⟨x, List.mem_of_getElem? hx, rfl⟩)).2
        cases x <;> first | rfl | (simp [frzV, flatV] at this)
      have := frzV_ok hrc hfz hfl hru
      rw [tmps0_get (u := u) (by simpa using hu)]
      cases hx' : frzV s fs x <;> rw [hx'] at this <;> first | exact this | (cases x <;> simp [frzV, flatV] at hfl hx')
    · intro t v hv
      have hv : look (mvFrom 0 (vs.map (frzV s fs))) t = some v := hv
      rw [look_mvFrom] at hv
      exact (hvb v (List.mem_of_getElem? (by simpa using hv))).1
  have hR4 := (hR3.unpin (k := k) hkm).ren (subC_ok hsub) (subC_pin hsub)
  have hF2 : F2 = ⟨F2.n, A⟩ := by
    have := hR4.fa
    cases F2; simp at this; rw [this]
  have hl : look (S.st ⟨s.m, (os' d).length, mvFrom 0 (resOf (r d)), obFrom 0 (os' d)⟩) = nth (os' d) := look_ob _
  have hlt : ∀ i o, nth (os' d) i = some o → i < (os' d).length := fun i o ho => (List.getElem?_eq_some_iff.1 ho).1
  have hsm : ∀ i, i < (os' d).length → (nth (os' d) i).isSome = true := fun i hi => by
    show ((os' d)[i]?).isSome = true; rw [List.getElem?_eq_getElem hi]; rfl
  have hpin := hR4.pin
  have hrbs := bdVs_ok hbr
  -- a block that was handed over is a kept object's, or it was used up
  have hold : ∀ b, (∃ i t, i < m ∧ L i = some (b, t)) → (∃ i t, i < k ∧ (nth (os' d) i).isSome = true ∧ L1 ((look bl i).getD i) = some (b, t)) ∨ ∃ j u, k ≤ j ∧ j < m ∧ L j = some (b, u) := fun b ⟨i, t, hi, hL⟩ => by
    by_cases hik : k ≤ i
    · exact .inr ⟨i, t, hik, hi, hL⟩
    · exact .inl ⟨i, t, by omega, hsm i (by omega), ((hpin i (by show i < k; omega)).1).trans hL⟩
  refine ⟨_, F2.n, hpd, ⟨hR4.os, hR4.tape, hR4.output, hR4.size, fun b hb hn => hR4.keep b hb (fun ⟨i, t, hi, hL⟩ => hn i t hi hL), hR4.kc, fun b hb hnA => ?_, hc2, fun i hi => (hpin i hi).1, fun i b t hi hlt' hL => ?_, ⟨fun i o ho => ?_, fun i j b t u hi hj h3 h4 => ?_, fun i b t hi h3 => ?_, fun o ho => ?_⟩, ?_, ?_⟩⟩
  · rcases hR4.fn b hb with h1 | h1 | h1
    · exact .inl ⟨h1, hR4.fsz b (.inl hb)⟩
    · rcases hold b h1 with ⟨i, t, hi, hs', hL⟩ | h2
      · exact absurd (.inl hb) (hR4.own i b t (by rw [hl]; exact hs') hL).1
      · exact .inr h2
    · exact absurd h1 hnA
  · have ho := hR4.own i b t (by rw [hl]; exact hsm i hlt') hL
    rcases ho.2.2 with h1 | h1
    · exact .inl h1
    · rcases hold b h1 with ⟨j, u, hj, hs', hLj⟩ | h2
      · have := hR4.inj i j b t u (by rw [hl]; exact hsm i hlt') (by rw [hl]; exact hs') hL hLj
        omega
      · exact .inr h2
  · have := hR4.ob i o (by rw [hl]; exact ho)
    rw [hl, hF2] at this; exact this
  · exact hR4.inj i j b t u (by rw [hl]; exact hsm i hi) (by rw [hl]; exact hsm j hj) h3 h4
  · have := hR4.own i b t (by rw [hl]; exact hsm i hi) h3
    rw [hF2] at this
    exact ⟨this.1, this.2.1⟩
  · obtain ⟨i, hi⟩ := List.getElem?_of_mem ho
    exact (hR4.bst i o (by rw [hl]; exact hi)).2
  · have hslot : ∀ j x, (resOf (r d))[j]? = some x → ∃ u, us[j]? = some u ∧ RV1 (nth (os' d)) (fun i => L1 ((look bl i).getD i)) w' ⟨F2.n, A⟩ x u := fun j x hj => by
      have hjl := (List.getElem?_eq_some_iff.1 hj).1
      have hju : j < us.length := by omega
      have := hR4.env j x (by
        show look (mvFrom 0 (resOf (r d))) j = _
        rw [look_mvFrom]; simpa using hj)
      rw [hl, hF2, tmps0_get (u := us[j]) (by simp [hju])] at this
      refine ⟨us[j], List.getElem?_eq_getElem hju, ?_⟩
      have hfl := (hrbs x (List.mem_of_getElem? hj)).2
      cases x <;> first | exact this | (simp [flatV] at hfl)
    cases hrd : r d with
    | tup xs =>
      rw [hrd] at hslot hc3 hc4
      have hc4 : vs.length ≠ 1 := fun e => by rw [e] at hc4; cases hc4
      have hne : us.toArray.size ≠ 1 := by simpa [hlen] using hc4
      rw [dif_neg hne]
      exact ⟨us.toArray, rfl, (by show us.length = xs.length; rw [hlen]; exact hc3.symm), fun j x hj => by
        obtain ⟨u, hu, hx⟩ := hslot j x hj
        exact ⟨u, by simpa using hu, hx⟩⟩
    | one c =>
      rw [hrd] at hslot hc3
      have hc3 : 1 = vs.length := hc3
      obtain ⟨u, hu, hx⟩ := hslot 0 (.one c) rfl
      have h1 : us.toArray.size = 1 := by simp; omega
      rw [dif_pos h1]
      have : us[0]? = some u := hu
      have hu0 : us.toArray[0] = u := by
        have := (List.getElem?_eq_some_iff.1 hu).2; simpa using this
      rw [hu0]; exact hx
    | agg cs =>
      rw [hrd] at hslot hc3
      have hc3 : 1 = vs.length := hc3
      obtain ⟨u, hu, hx⟩ := hslot 0 (.agg cs) rfl
      have h1 : us.toArray.size = 1 := by simp; omega
      rw [dif_pos h1]
      have hu0 : us.toArray[0] = u := by
        have := (List.getElem?_eq_some_iff.1 hu).2; simpa using this
      rw [hu0]; exact hx
    | un =>
      rw [hrd] at hrbs
      have := (hrbs .un (by simp [resOf])).2
      simp [flatV] at this
  · cases hrd : r d with
    | tup xs =>
      rw [hrd] at hrbs
      intro x hx
      have := hrbs x hx
      cases x <;> first | exact this.1 | (simp [flatV] at this)
    | one c => rw [hrd] at hrbs; exact (hrbs (.one c) (by simp [resOf])).1
    | agg cs => rw [hrd] at hrbs; exact (hrbs (.agg cs) (by simp [resOf])).1
    | un => trivial

/-- A CONTRACT with objects, out of its reckoning. -/
theorem Con.vc {f : Nat} {fn : Func} {c : Code} {args : List MV} {os : List Ob} {D : Type} {p : D → Prop} {r : D → MV} {os' : D → List Ob} {k : Nat} (hs : List (Nat × Hint)) (hT : TOk P T) (hm : P.follows .mixedOrders = true) (hf : P.funcs[f]? = some fn) (hk : Nat.ble k os.length = true)
    (hn : (fn.name == "runtime.NumGoroutine") = false) (hb : fn.body = some c) (hl : Nat.ble args.length fn.ntmps = true)
    (h : fS (S.from fn.ntmps args os) fun s => Mg.vc os.length P T c hs s (conE T k fn p r os')) : Con P f args os k p r os' := by
  rw [fS_eq] at h
  refine ⟨⟨fn, hf, hn, by rw [hb]; rfl⟩, ?_⟩
  intro w N A L vals hsz hA hN hobs hv hgt
  refine calls_of_wp hf hb (wp_mono (vc_ok hT hm _ _ _ h w (wrOf L os.length N) A _ w ⟨rfl, hgt, hN⟩ ⟨_, _, from_rel hsz (Nat.le_of_ble_eq_true hl) hA hN hobs hv⟩) fun e a w' ⟨s, ⟨L1, F1, hr⟩, he⟩ => ?_)
  have key : conEnd T k fn p r os' s → a.defers = [] ∧ ∃ v, (results fn a.tmps).run P w' = .ok v w' ∧ ∃ (d : D) (v' : Value) (L' : Lay) (F : Nat → Prop), Ending.returned v = .returned v' ∧ p d ∧ ConPost w N A L os.length k (r d) (os' d) v' w' L' F := fun he => by
    obtain ⟨v, h1, d, L', F', h2, h3⟩ := conEnd_ok (Nat.le_of_ble_eq_true hk) hT hr he
    exact ⟨hr.df, v, h1, d, v, L', F', rfl, h2, h3⟩
  cases e <;> first | exact key he | exact he.elim

end Mg

/- The abstract state logic, part 27: a nil slice as an empty list of its own. No condition. -/
namespace Mg
open Go Go.RowKit
set_option linter.unusedVariables false

variable {P : Program} {T : Tab}

def S.vslot (s : S) (t : Nat) : Option S := match look s.env t with
  | some (.one .nil) => some { (s.app [] s.st) with env := (t, .one (.ref s.n 0 0)) :: s.env }
  | _ => none
def S.vbox (s : S) (b j : Nat) : Option S := match look s.st b with
  | some (.box cs) => match cs[j]? with
    | some .nil => some (s.app [] (upd s.st b (.box (cs.set j (.ref s.n 0 0)))))
    | _ => none
  | _ => none

theorem nil_ref {st : List (Nat × Ob)} {n : Nat} {L : Lay} {w : World} {F : FF} {v : Value} (h : ∃ a, v = .slice a 0 0) : RC (look ((n, .arr []) :: st)) L w F (.ref n 0 0) v := by
  obtain ⟨a, rfl⟩ := h
  refine ⟨rfl, fun rows hr => ⟨a, 0, rfl, by simp, .inr ⟨rfl, rfl⟩⟩⟩

theorem Rl.vslot {w0 : World} {wr : Wr} {A : Nat → Prop} {L : Lay} {F : FF} {s : S} {a : Act} {w : World} (h : Rl w0 wr A L F s a w) {t : Nat} {s' : S} (hs : s.vslot t = some s') : ∃ L', Rl w0 wr A L' F s' a w := by
  unfold S.vslot at hs
  split at hs
  case h_2 => cases hs
  rename_i he
  obtain rfl := Option.some.inj hs
  obtain ⟨L', h1, hn, hLo, hi⟩ := h.virt
  refine ⟨L', ⟨h1.os, h1.tape, h1.output, h1.size, h1.keep, h1.kc, h1.pin, h1.fa, h1.fn, h1.fsz, h1.ob, h1.own, h1.inj, h1.sz, fun t' v hv => ?_, h1.bst, fun t' v hv => ?_, h1.df⟩⟩
  · rw [show look ({ (s.app [] s.st) with env := (t, .one (.ref s.n 0 0)) :: s.env } : S).env t' = look ((t, .one (.ref s.n 0 0)) :: s.env) t' from rfl, look_cons] at hv
    by_cases e : t' = t
    · rw [if_pos e] at hv
      obtain rfl := Option.some.inj hv
      subst e
      have : RC (look s.st) L w F .nil (a.tmps.getD t' undef) := h.env t' _ he
      exact nil_ref (F := F) this
    · rw [if_neg e] at hv
      exact h1.env t' v hv
  · rw [show look ({ (s.app [] s.st) with env := (t, .one (.ref s.n 0 0)) :: s.env } : S).env t' = look ((t, .one (.ref s.n 0 0)) :: s.env) t' from rfl, look_cons] at hv
    by_cases e : t' = t
    · rw [if_pos e] at hv
      obtain rfl := Option.some.inj hv
      exact Nat.lt_succ_self s.n
    · rw [if_neg e] at hv
      exact h1.ben t' v hv

theorem Rl.vbox {w0 : World} {wr : Wr} {A : Nat → Prop} {L : Lay} {F : FF} {s : S} {a : Act} {w : World} (h : Rl w0 wr A L F s a w) {b j : Nat} {s' : S} (hs : s.vbox b j = some s') : ∃ L', Rl w0 wr A L' F s' a w := by
  unfold S.vbox at hs
  split at hs
  case h_2 => cases hs
  rename_i cs hb
  split at hs
  case h_2 => cases hs
  rename_i hj
  obtain rfl := Option.some.inj hs
  obtain ⟨L', h1, hn, hLo, hi⟩ := h.virt
  have hbn : b ≠ s.n := Nat.ne_of_lt (h.bst b _ hb).1
  have hb1 : look (s.app [] s.st).st b = some (.box cs) := by simp only [S.app, look_cons, if_neg hbn]; exact hb
  have hup : (s.app [] (upd s.st b (.box (cs.set j (.ref s.n 0 0))))).st = upd (s.app [] s.st).st b (.box (cs.set j (.ref s.n 0 0))) := by
    simp only [S.app, upd_cons, if_neg hbn]
  have hrc : ∀ x u, RC (look (s.app [] s.st).st) L' w F x u → RC (look (s.app [] (upd s.st b (.box (cs.set j (.ref s.n 0 0))))).st) L' w F x u := fun x u hr => by
    rw [hup]
    exact RC.set (o := .box cs) (o' := .box (cs.set j (.ref s.n 0 0))) hb1 trivial (fun _ _ => rfl) (fun _ _ _ _ _ _ h => h) hr
  have hlk : ∀ i o, look (s.app [] (upd s.st b (.box (cs.set j (.ref s.n 0 0))))).st i = some o → (i = b ∧ o = .box (cs.set j (.ref s.n 0 0))) ∨ (i ≠ b ∧ look (s.app [] s.st).st i = some o) := fun i o ho => by
    rw [hup, look_upd] at ho
    by_cases e : i = b
    · rw [if_pos ⟨e, by rw [hb1]; rfl⟩] at ho; exact .inl ⟨e, (Option.some.inj ho).symm⟩
    · rw [if_neg (fun hh => e hh.1)] at ho; exact .inr ⟨e, ho⟩
  have hsm : ∀ i, (look (s.app [] (upd s.st b (.box (cs.set j (.ref s.n 0 0))))).st i).isSome = true → (look (s.app [] s.st).st i).isSome = true := fun i hi => by
    obtain ⟨o, ho⟩ := Option.isSome_iff_exists.1 hi
    rcases hlk i o ho with ⟨rfl, _⟩ | ⟨_, h2⟩
    · rw [hb1]; rfl
    · rw [h2]; rfl
  refine ⟨L', ⟨h1.os, h1.tape, h1.output, h1.size, h1.keep, h1.kc, h1.pin, h1.fa, h1.fn, h1.fsz, fun i o ho => ?_, fun i k t g1 g2 => h1.own i k t (hsm i g1) g2, fun i k b' t u g1 g2 => h1.inj i k b' t u (hsm i g1) (hsm k g2), h1.sz, fun t v hv => (h1.env t v hv).imp (h1.ben t v hv) (fun x _ u hr => hrc x u hr), fun i o ho => ?_, h1.ben, h1.df⟩⟩
  · rcases hlk i o ho with ⟨rfl, rfl⟩ | ⟨_, h2⟩
    · obtain ⟨bb, t, g1, g2, g3⟩ := h1.ob i _ hb1
      refine ⟨bb, t, g1, g2, fun k x hk => ?_⟩
      rw [List.getElem?_set] at hk
      by_cases e : j = k
      · subst e
        rw [if_pos rfl] at hk
        have hlt : j < cs.length := (List.getElem?_eq_some_iff.1 hj).1
        rw [if_pos hlt] at hk
        obtain rfl := Option.some.inj hk
        obtain ⟨u, hu, hr⟩ := g3 j _ hj
        exact ⟨u, hu, nil_ref hr⟩
      · rw [if_neg e] at hk
        obtain ⟨u, hu, hr⟩ := g3 k x hk
        exact ⟨u, hu, hrc x u hr⟩
    · exact (h1.ob i o h2).imp (h1.bst i o h2).2 rfl (fun _ _ _ => rfl) (fun x _ u hr => hrc x u hr)
  · rcases hlk i o ho with ⟨rfl, rfl⟩ | ⟨_, h2⟩
    · refine ⟨(h1.bst i _ hb1).1, fun x hx => ?_⟩
      rcases List.mem_or_eq_of_mem_set hx with hx | rfl
      · exact (h1.bst i _ hb1).2 x hx
      · exact Nat.lt_succ_self s.n
    · exact h1.bst i o h2

theorem W.vslot {k : Nat} {c : Code} {s s' : S} {Q : Exit → S → Prop} (t : Nat) (hs : s.vslot t = some s') (h : W k P c s' Q) : W k P c s Q := fun w0 wr A a w hk ⟨L, F, hr⟩ => by
  obtain ⟨L', hr'⟩ := hr.vslot hs
  exact h w0 wr A a w hk ⟨L', F, hr'⟩
theorem W.vbox {k : Nat} {c : Code} {s s' : S} {Q : Exit → S → Prop} (b j : Nat) (hs : s.vbox b j = some s') (h : W k P c s' Q) : W k P c s Q := fun w0 wr A a w hk ⟨L, F, hr⟩ => by
  obtain ⟨L', hr'⟩ := hr.vbox hs
  exact h w0 wr A a w hk ⟨L', F, hr'⟩

def S.nfa (s : S) (id : Nat) : Option S := match look s.st id with
  | some (.arr rows) => some (s.set id (.arr (nfR rows)))
  | _ => none
theorem W.nf {P : Program} {k : Nat} {c : Code} {s s' : S} {Q : Exit → S → Prop} (id : Nat) (hs : s.nfa id = some s') (h : W k P c s' Q) : W k P c s Q := fun w0 wr A a w hk ⟨L, F, hr⟩ => by
  unfold S.nfa at hs
  split at hs
  · rename_i rows hlk
    obtain rfl := Option.some.inj hs
    exact h w0 wr A a w hk ⟨L, F, hr.nf hlk⟩
  · cases hs
end Mg

/- The abstract state logic, part 28: lists that grow. No condition. -/
namespace Mg
open Go Go.RowKit
set_option linter.unusedVariables false

section
variable {α : Type}
/-- A list of its own grows. -/
theorem sApp {a : Prop} {c : α → List MC} {xs : List α} {k b : Nat} {rows2 : List (List MC)} (ha : a) (hc : ∀ x, (c x).length = k) (h2 : (rows2.all fun r => r.length == k) = true) (hl : xs.length ≤ 1000000) (hl2 : Nat.ble rows2.length 1000000 = true) (hb : Nat.ble b 1000000 = true) :
    Side (a ∧ (∀ r ∈ xs.map c, r.length = k) ∧ (∀ r ∈ rows2, r.length = k) ∧ ((xs.map c).length + rows2.length) * b ≤ 140737488355328 ∧ (xs.map c).length + rows2.length ≤ 140737488355328) := by
  have h2' := Nat.le_of_ble_eq_true hl2
  have hb' := Nat.le_of_ble_eq_true hb
  refine ⟨ha, fun r hr => by obtain ⟨x, _, rfl⟩ := List.mem_map.1 hr; exact hc x, fun r hr => by simpa using List.all_eq_true.1 h2 r hr, ?_, ?_⟩
  · rw [List.length_map]
    exact Nat.le_trans (Nat.mul_le_mul (Nat.add_le_add hl h2') hb') (by decide)
  · rw [List.length_map]; omega
theorem sAppL {xs : List α} {x : α} {m n : Nat} (hm : m = xs.length) (hn : n = 1) : Side ((xs ++ [x]).length = m + n) := ⟨by simp [hm, hn]⟩
theorem sWr {k n : Int} (h1 : -9223372036854775808 ≤ n) (h2 : n ≤ 9223372036854775807) (h : k = n) : Side (k = IntKind.i64.wrap n) := ⟨by rw [wrapi h1 h2, h]⟩
theorem sAppR {c : α → List MC} {xs : List α} {x : α} {rows2 : List (List MC)} (h : rows2 = [c x]) : Side ((xs ++ [x]).map c = xs.map c ++ rows2) := ⟨by rw [List.map_append, h]; rfl⟩
theorem sMapF {c : α → List MC} {xs : List α} (hc : ∀ x, (c x).all MC.flat = true) : Side (∀ r ∈ xs.map c, ∀ x ∈ r, x.flat = true) :=
  ⟨fun r hr x hx => by obtain ⟨y, _, rfl⟩ := List.mem_map.1 hr; exact List.all_eq_true.1 (hc y) x hx⟩
theorem sFzE {c : α → List MC} {xs : List α} {n : Nat} (hn : n = xs.length) : Side (xs.map c = ((xs.map c).drop 0).take n) := ⟨by rw [List.drop_zero, List.take_of_length_le (by simp [hn])]⟩
theorem sMapZ {c : α → List MC} {xs : List α} (hc : ∀ x, (c x).all MC.frz = true) : Side (AllF (xs.map c) ∧ True) :=
  ⟨fun r hr x hx => by obtain ⟨y, _, rfl⟩ := List.mem_map.1 hr; exact List.all_eq_true.1 (hc y) x hx, trivial⟩
theorem l_all {c : α → List MC} {xs : List α} {n : Nat} (hn : n = xs.length) : ((xs.map c).drop 0).take n = xs.map c := by rw [List.drop_zero, List.take_of_length_le (by simp [hn])]
/-- What is lent for a call. -/
theorem allF {c : α → List MC} {xs : List α} (hc : ∀ x, (c x).all MC.frz = true) : AllF (xs.map c) :=
  fun r hr x hx => by obtain ⟨y, _, rfl⟩ := List.mem_map.1 hr; exact List.all_eq_true.1 (hc y) x hx
theorem lendF {c : α → List MC} {xs : List α} {n : Nat} (hc : ∀ x, (c x).all MC.frz = true) (hn : n = xs.length) : ∀ r ∈ ((xs.map c).drop 0).take n, ∀ x ∈ r, x.frz = true := by
  rw [l_all hn]
  exact fun r hr x hx => by obtain ⟨y, _, rfl⟩ := List.mem_map.1 hr; exact List.all_eq_true.1 (hc y) x hx
theorem sLend {P : Program} {sh : Bool} {f : Nat} {args args' : List MV} {r : MV} {p : Prop} (hp : p) (h : Pure P sh f args' r) (e : args = args') : Side (p ∧ Pure P sh f args r) := ⟨hp, e ▸ h⟩
theorem toA_map {c : α → List MC} {xs : List α} (hc : ∀ x, (c x).map MC.toA = c x) : ((xs.map c).map fun r => r.map MC.toA) = xs.map c := by
  rw [List.map_map]; exact List.map_congr_left fun x _ => hc x
theorem sAppF {c : α → List MC} {xs : List α} {rows2 : List (List MC)} {k b : Nat} (e : rows2 = xs.map c) (hc : ∀ x, (c x).length = k) (hf : ∀ x, (c x).all MC.frz = true) (hl : xs.length ≤ 2000000) (hb : Nat.ble b 1000000 = true) :
    Side ((∀ r ∈ rows2, r.length = k) ∧ rows2.length * b ≤ 140737488355328 ∧ rows2.length ≤ 140737488355328 ∧ AllF rows2 ∧ MV.one (.fz (xs.map c)) = .one (.fz rows2)) := by
  subst e
  have hb' := Nat.le_of_ble_eq_true hb
  refine ⟨fun r hr => by obtain ⟨x, _, rfl⟩ := List.mem_map.1 hr; exact hc x, ?_, ?_, allF hf, rfl⟩
  · rw [List.length_map]
    exact Nat.le_trans (Nat.mul_le_mul hl hb') (by decide)
  · rw [List.length_map]; omega
theorem setMap {c : α → List MC} {xs : List α} {k : Nat} {y : α} {r : List MC} (h : c y = r) : (xs.set k y).map c = (xs.map c).set (0 + k) r := by
  rw [Nat.zero_add, List.map_set, h]
theorem sSet {c : α → List MC} {xs : List α} {k : Nat} {y : α} {r : List MC} (h : c y = r) : Side ((xs.set k y).map c = (xs.map c).set (0 + k) r) := ⟨setMap h⟩
theorem sSetL {xs : List α} {k : Nat} {y : α} {n : Nat} (h : n = xs.length) : Side ((xs.set k y).length = n) := ⟨by rw [List.length_set, h]⟩
variable [Inhabited α]
theorem mapGet {c : α → List MC} {xs : List α} {k : Nat} (h : k < xs.length) : (xs.map c).getD (0 + k) [] = c (xs.getD k default) := by
  rw [Nat.zero_add, List.getD_eq_getElem?_getD, List.getElem?_map, List.getElem?_eq_getElem h, List.getD_eq_getElem?_getD, List.getElem?_eq_getElem h]; rfl
theorem sIxO {c : α → List MC} {xs : List α} {k : Int} {n m : Nat} (h0 : 0 ≤ k) (h : k < xs.length) (hn : n = xs.length) (hc : ∀ x, (c x).length = m) :
    Side ((0 ≤ k ∧ k < n) ∧ 0 + k.toNat < (xs.map c).length ∧ ((xs.map c).getD (0 + k.toNat) []).length = m) :=
  ⟨⟨h0, hn ▸ h⟩, by rw [List.length_map]; omega, by rw [mapGet (by omega)]; exact hc _⟩
theorem sSt {c : α → List MC} {xs : List α} {k off n m z : Nat} (h : k < xs.length) (hc : ∀ x, (c x).length = m) (hb : Nat.ble (off + n) m = true) (hz : n = z) :
    Side ((0 + k < (xs.map c).length ∧ off + n ≤ ((xs.map c).getD (0 + k) []).length) ∧ n = z) :=
  ⟨⟨by rw [List.length_map]; omega, by rw [mapGet h, hc]; exact Nat.le_of_ble_eq_true hb⟩, hz⟩
/-- A whole number that was read. -/
def intOf : List MV → Int
  | [.one (.sc (.int _ n))] => n
  | _ => 0
def asI (l : List MV) : MV := .one (.sc (.int .i64 (intOf l)))
theorem sLdI {c : α → List MC} {xs : List α} {k off : Nat} {n : α → Int} {t : α → List MC} (h : k < xs.length) (hc : ∀ x, (c x).drop off = MC.sc (.int .i64 (n x)) :: t x) :
    Side (0 < (List.drop off ((xs.map c).getD (0 + k) [])).length ∧ MV.one ((List.drop off ((xs.map c).getD (0 + k) [])).getD 0 .dead) = asI [MV.one ((List.drop off ((xs.map c).getD (0 + k) [])).getD 0 .dead)]) := by
  rw [mapGet h, hc]
  exact ⟨Nat.succ_pos _, rfl⟩
end
end Mg
