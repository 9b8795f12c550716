/- Parts of the abstract state logic and of the walks, one behind the other: Mg20, Mg22, Mg39, Mg34. No condition. -/
import Derived.Test.YtedgmfmhilihoaaGreatP10
/- The abstract state logic, part 20: renaming, loops, what a whole code asks for. No condition. -/
namespace Mg
open Go Go.RowKit
set_option linter.unusedVariables false

variable {P : Program} {T : Tab}

def MC.ren (β : Nat → Nat) : MC → MC
  | .ref i o l => .ref (β i) o l
  | .ptr i r o => .ptr (β i) r o
  | c => c
def MV.ren1 (β : Nat → Nat) : MV → MV
  | .one c => .one (c.ren β)
  | .agg cs => .agg (cs.map (MC.ren β))
  | v => v
def MV.ren (β : Nat → Nat) : MV → MV
  | .tup vs => .tup (vs.map (MV.ren1 β))
  | v => v.ren1 β
def ObR (β : Nat → Nat) : Ob → Ob → Prop
  | .box cs', .box cs => cs = cs'.map (MC.ren β)
  | .arr rows', .arr rows => rows' = rows ∧ ∀ r ∈ rows, ∀ c ∈ r, c.ren β = c
  | _, _ => False

/-- s' is part of s, its names sent into s's. -/
structure SubR (β : Nat → Nat) (s' s : S) : Prop where
  m : s'.m = s.m
  env : ∀ t v, look s'.env t = some v → look s.env t = some (v.ren β) ∧ v.bd s'.n
  st : ∀ id o, look s'.st id = some o → (∃ q, look s.st (β id) = some q ∧ ObR β o q) ∧ id < s'.n ∧ o.bd s'.n
  inj : ∀ i j, (look s'.st i).isSome = true → (look s'.st j).isSome = true → β i = β j → i = j

theorem Rl.ren {w0 : World} {wr : Wr} {A : Nat → Prop} {L : Lay} {F : FF} {s : S} {a : Act} {w : World} (h : Rl w0 wr A L F s a w) {β : Nat → Nat} {s' : S} (hs : SubR β s' s) (hk : ∀ i, i < wr.k → β i = i ∧ i < s'.n) : Rl w0 wr A (fun i => L (β i)) F s' a w := by
  have hsome : ∀ id, (look s'.st id).isSome = true → (look s.st (β id)).isSome = true := fun id hid => by
    obtain ⟨o, ho⟩ := Option.isSome_iff_exists.1 hid
    obtain ⟨⟨q, hq, _⟩, _⟩ := hs.st id o ho
    rw [hq]; rfl
  have hi : ∀ c : MC, ∀ u, RC (look s.st) L w F (c.ren β) u → RC (look s'.st) (fun i => L (β i)) w F c u := fun c u hr => by
    cases c with
    | ref id off len =>
      refine ⟨hr.1, fun rows hrw => ?_⟩
      obtain ⟨⟨q, hq, hob⟩, _⟩ := hs.st id _ hrw
      cases q with
      | box cs => exact hob.elim
      | arr rows2 =>
        obtain ⟨rfl, _⟩ := hob
        exact hr.2 rows hq
    | ptr id row off => exact ⟨hr.1, fun hsm => hr.2 (hsome id hsm)⟩
    | _ => exact hr
  have hr1 : ∀ v : MV, ∀ u, RV1 (look s.st) L w F (v.ren1 β) u → RV1 (look s'.st) (fun i => L (β i)) w F v u := fun v u hr => by
    cases v with
    | un => trivial
    | one c => exact hi c u hr
    | agg cs =>
      obtain ⟨arr, rfl, hsz, hc⟩ := hr
      refine ⟨arr, rfl, by simpa using hsz, fun j c hj => ?_⟩
      obtain ⟨u, hu, hru⟩ := hc j (c.ren β) (by simp [hj])
      exact ⟨u, hu, hi c u hru⟩
    | tup vs => exact hr.elim
  refine ⟨h.os, h.tape, h.output, h.size, h.keep, h.kc, fun i hi => ⟨by rw [(hk i hi).1]; exact (h.pin i hi).1, (hk i hi).2⟩, h.fa, h.fn, h.fsz, ?_, ?_, ?_, h.sz.trans hs.m.symm, ?_, ?_, ?_, h.df⟩
  · intro id o ho
    obtain ⟨⟨q, hq, hob⟩, _⟩ := hs.st id o ho
    have hok := h.ob (β id) q hq
    cases o with
    | box cs' =>
      cases q with
      | arr rows => exact hob.elim
      | box cs =>
        obtain rfl : cs = cs'.map (MC.ren β) := hob
        obtain ⟨b, t, hL, hf, hw⟩ := hok
        exact ⟨b, t, hL, hf, fun j c hj => by
          obtain ⟨u, hu, hru⟩ := hw j (c.ren β) (by simp [hj])
          exact ⟨u, hu, hi c u hru⟩⟩
    | arr rows' =>
      cases q with
      | box cs => exact hob.elim
      | arr rows =>
        obtain ⟨rfl, hfix⟩ := hob
        rcases hok with ⟨h1, h2⟩ | ⟨b, t, hL, hf, hlen, hw⟩
        · exact .inl ⟨h1, h2⟩
        · exact .inr ⟨b, t, hL, hf, hlen, fun i r hr j c hj => by
            obtain ⟨u, hu, hru⟩ := hw i r hr j c hj
            refine ⟨u, hu, hi c u ?_⟩
            rw [hfix r (List.mem_of_getElem? hr) c (List.mem_of_getElem? hj)]
            exact hru⟩
  · exact fun id b t h1 h2 => h.own (β id) b t (hsome id h1) h2
  · exact fun i j b t u h1 h2 h3 h4 => hs.inj i j h1 h2 (h.inj (β i) (β j) b t u (hsome i h1) (hsome j h2) h3 h4)
  · intro t v hv
    have hr := h.env t _ (hs.env t v hv).1
    cases v with
    | tup vs =>
      obtain ⟨arr, he, hsz, hc⟩ := hr
      refine ⟨arr, he, by simpa using hsz, fun j x hj => ?_⟩
      obtain ⟨u, hu, hru⟩ := hc j (x.ren1 β) (by simp [hj])
      exact ⟨u, hu, hr1 x u hru⟩
    | un => trivial
    | one c => exact hi c _ hr
    | agg cs => exact hr1 (.agg cs) _ hr
  · exact fun id o ho => (hs.st id o ho).2
  · exact fun t v hv => (hs.env t v hv).2

theorem W.ren {k : Nat} {c : Code} {s s' : S} {Q : Exit → S → Prop} {β : Nat → Nat} (hs : SubR β s' s) (hp : ∀ i, i < k → β i = i ∧ i < s'.n) (h : W k P c s' Q) : W k P c s Q := fun w0 wr A a w hk ⟨L, F, hr⟩ =>
  h w0 wr A a w hk ⟨_, F, hr.ren hs (hk.1 ▸ hp)⟩

/- The same, reckoned. -/
def eqU : Value → Value → Prop
  | .int k a, .int k' b => k = k' ∧ Side (a = b)
  | .bool a, .bool b => Side (a = b)
  | .string a, .string b => Side (a = b)
  | a, b => Side (a = b)
def eqC : MC → MC → Prop
  | .dead, .dead => True
  | .nil, .nil => True
  | .sc a, .sc b => eqU a b
  | .fz a, .fz b => Side (a = b)
  | .ag a, .ag b => Side (a = b)
  | .own a, .own b => Side (a = b)
  | .fptr a, .fptr b => Side (a = b)
  | .aptr a, .aptr b => Side (a = b)
  | .ref i o l, .ref i' o' l' => i = i' ∧ Side (o = o') ∧ Side (l = l')
  | .ptr i o l, .ptr i' o' l' => i = i' ∧ Side (o = o') ∧ Side (l = l')
  | .tr o B u a, .tr o' B' u' b => (o = o' ∧ B = B' ∧ u = u') ∧ Side (a = b)
  | _, _ => False
def eqL : List MC → List MC → Prop
  | [], [] => True
  | a :: as, b :: bs => eqC a b ∧ eqL as bs
  | _, _ => False
def eqV1 : MV → MV → Prop
  | .un, .un => True
  | .one a, .one b => eqC a b
  | .agg a, .agg b => eqL a b
  | .tup a, .tup b => Side (a = b)
  | _, _ => False
theorem eqU_ok {a b : Value} (h : eqU a b) : a = b := by
  unfold eqU at h
  split at h
  · obtain ⟨rfl, ⟨rfl⟩⟩ := h; rfl
  · obtain ⟨rfl⟩ := h; rfl
  · obtain ⟨rfl⟩ := h; rfl
  · exact h.h
theorem eqC_ok {a b : MC} (h : eqC a b) : a = b := by
  unfold eqC at h
  split at h
  · rfl
  · rfl
  · rw [eqU_ok h]
  · rw [h.h]
  · rw [h.h]
  · rw [h.h]
  · rw [h.h]
  · rw [h.h]
  · rw [h.1, h.2.1.h, h.2.2.h]
  · rw [h.1, h.2.1.h, h.2.2.h]
  · obtain ⟨⟨rfl, rfl, rfl⟩, ⟨rfl⟩⟩ := h; rfl
  · exact h.elim
theorem eqL_ok : ∀ {a b : List MC}, eqL a b → a = b
  | [], [], _ => rfl
  | a :: as, b :: bs, h => by rw [eqC_ok h.1, eqL_ok h.2]
  | [], _ :: _, h => h.elim
  | _ :: _, [], h => h.elim
theorem eqV1_ok {a b : MV} (h : eqV1 a b) : a = b := by
  unfold eqV1 at h
  split at h
  · rfl
  · rw [eqC_ok h]
  · rw [eqL_ok h]
  · rw [h.h]
  · exact h.elim

def bdC (n : Nat) : MC → Prop
  | .ref id _ _ => Chk (Nat.blt id n)
  | .ptr id _ _ => Chk (Nat.blt id n)
  | _ => True
def bdL (n : Nat) : List MC → Prop
  | [] => True
  | c :: cs => bdC n c ∧ bdL n cs
theorem bdC_ok {n : Nat} {c : MC} (h : bdC n c) : c.bd n := by cases c <;> first | trivial | exact (by simpa using (show Chk _ from h).h : _ < n)
theorem bdL_ok {n : Nat} : ∀ {cs : List MC}, bdL n cs → ∀ c ∈ cs, c.bd n
  | [], _, c, hc => by simp at hc
  | x :: xs, h, c, hc => by
    rcases List.mem_cons.1 hc with rfl | hc
    · exact bdC_ok h.1
    · exact bdL_ok h.2 c hc

def MC.flat : MC → Bool
  | .ref _ _ _ => false
  | .ptr _ _ _ => false
  | _ => true
theorem MC.flat_bd {c : MC} {n : Nat} (h : c.flat = true) : c.bd n := by cases c <;> first | trivial | (simp [MC.flat] at h)
theorem MC.frz_flat {c : MC} (h : c.frz = true) : c.flat = true := by cases c <;> first | rfl | (simp [MC.frz] at h)

def envC (bl : List (Nat × Nat)) (n : Nat) (env : List (Nat × MV)) : List (Nat × MV) → Prop
  | [] => True
  | (t, v) :: l => (match look env t with
    | some u => match v with
      | .one c => eqV1 (.one (c.ren fun i => (look bl i).getD i)) u ∧ bdC n c
      | .agg cs => eqV1 (.agg (cs.map (MC.ren fun i => (look bl i).getD i))) u ∧ bdL n cs
      | .un => eqV1 .un u
      | .tup _ => False
    | none => False) ∧ envC bl n env l
def stC (bl : List (Nat × Nat)) (n : Nat) (st : List (Nat × Ob)) : List (Nat × Ob) → Prop
  | [] => True
  | (id, o) :: l => (match look st ((look bl id).getD id) with
    | some q => match o, q with
      | .box cs', .box cs => eqL cs (cs'.map (MC.ren fun i => (look bl i).getD i)) ∧ bdL n cs'
      | .arr rows', .arr rows => Side (rows' = rows) ∧ Side (∀ r ∈ rows', ∀ c ∈ r, c.flat = true)
      | _, _ => False
    | none => False) ∧ Chk (Nat.blt id n) ∧ stC bl n st l
/-- s' is part of s. -/
def subC (k : Nat) (bl : List (Nat × Nat)) (s' s : S) : Prop :=
  Chk ((List.range k).all fun i => Nat.beq ((look bl i).getD i) i && Nat.blt i s'.n) ∧ Chk (Nat.beq s'.m s.m) ∧ envC bl s'.n s.env s'.env ∧ stC bl s'.n s.st s'.st ∧ Chk (s'.st.all fun q => s'.st.all fun r => q.1 == r.1 || (look bl q.1).getD q.1 != (look bl r.1).getD r.1)

theorem look_in {α : Type} : ∀ {l : List (Nat × α)} {t : Nat} {i : α}, look l t = some i → (t, i) ∈ l
  | (k, v) :: l, t, i, h => by
    rw [look_cons] at h
    split at h
    · rename_i e; subst e; cases h; exact List.mem_cons_self
    · exact List.mem_cons_of_mem _ (look_in h)

theorem subC_pin {k : Nat} {bl : List (Nat × Nat)} {s' s : S} (h : subC k bl s' s) : ∀ i, i < k → (look bl i).getD i = i ∧ i < s'.n := fun i hi => by
  obtain ⟨⟨h0⟩, _⟩ := h
  have := List.all_eq_true.1 h0 i (List.mem_range.2 hi)
  simp only [Bool.and_eq_true, Nat.beq_eq, Nat.blt_eq] at this
  exact this
theorem subC_ok {k : Nat} {bl : List (Nat × Nat)} {s' s : S} (h : subC k bl s' s) : SubR (fun i => (look bl i).getD i) s' s := by
  obtain ⟨_, ⟨h1⟩, h2, h3, ⟨h4⟩⟩ := h
  have h1 : s'.m = s.m := Nat.eq_of_beq_eq_true h1
  refine ⟨h1, fun t v hv => ?_, fun id o ho => ?_, fun i j hi hj he => ?_⟩
  · have hm := look_in hv
    clear hv
    generalize s'.env = l at h2 hm
    induction l with
    | nil => simp at hm
    | cons x l ih =>
      obtain ⟨t', v'⟩ := x
      obtain ⟨hx, hl⟩ := h2
      rcases List.mem_cons.1 hm with e | hm
      · obtain ⟨rfl, rfl⟩ := Prod.mk.inj e
        split at hx
        · rename_i u hu
          split at hx
          · exact ⟨by rw [hu, ← eqV1_ok hx.1]; rfl, bdC_ok hx.2⟩
          · exact ⟨by rw [hu, ← eqV1_ok hx.1]; rfl, bdL_ok hx.2⟩
          · exact ⟨by rw [hu, ← eqV1_ok hx]; rfl, trivial⟩
          · exact hx.elim
        · exact hx.elim
      · exact ih hl hm
  · have hm := look_in ho
    clear ho h4
    generalize s'.st = l at h3 hm
    induction l with
    | nil => simp at hm
    | cons x l ih =>
      obtain ⟨t', v'⟩ := x
      obtain ⟨hx, ⟨hlt⟩, hl⟩ := h3
      rcases List.mem_cons.1 hm with e | hm
      · obtain ⟨rfl, rfl⟩ := Prod.mk.inj e
        have hlt : id < s'.n := by simpa using hlt
        split at hx
        · rename_i q hq
          split at hx
          · exact ⟨⟨_, hq, eqL_ok hx.1⟩, hlt, bdL_ok hx.2⟩
          · obtain ⟨⟨rfl⟩, ⟨hf⟩⟩ := hx
            refine ⟨⟨_, hq, rfl, fun r hr c hc => ?_⟩, hlt, fun r hr c hc => MC.flat_bd (hf r hr c hc)⟩
            have := hf r hr c hc
            cases c <;> first | rfl | (simp [MC.flat] at this)
          · exact hx.elim
        · exact hx.elim
      · exact ih hl hm
  · obtain ⟨x, hx⟩ := Option.isSome_iff_exists.1 hi
    obtain ⟨y, hy⟩ := Option.isSome_iff_exists.1 hj
    simp only [List.all_eq_true, Bool.or_eq_true, beq_iff_eq, bne_iff_ne] at h4
    rcases h4 _ (look_in hx) _ (look_in hy) with h | h
    · exact h
    · exact absurd he h

theorem tf {p : Prop} (h : true = false) : p := Bool.noConfusion h
theorem ft {p : Prop} (h : false = true) : p := Bool.noConfusion h
theorem tt {p : Prop} (h : p) (_ : true = true) : p := h
theorem ff {p : Prop} (h : p) (_ : false = false) : p := h
theorem sLe {n m : Nat} (h : Nat.ble n m = true) : Side (n ≤ m) := ⟨Nat.le_of_ble_eq_true h⟩
theorem sLeEq {a b c d : Nat} (h : Nat.ble a b = true) (h2 : c = d) : Side (a ≤ b ∧ c = d) := ⟨Nat.le_of_ble_eq_true h, h2⟩
theorem sAnd {p q : Prop} (h1 : p) (h2 : q) : Side (p ∧ q) := ⟨h1, h2⟩
theorem sRow {n : Int} {rows : List (List MC)} {row : List MC} {k : Nat} (h0 : 0 ≤ n) (h : rows[n.toNat]? = some row) (hl : row.length = k) : Side (0 ≤ n ∧ rows[n.toNat]? = some row ∧ row.length = k) := ⟨h0, h, hl⟩
theorem row_at {α : Type} [Inhabited α] (xs : List α) (f : α → List MC) {i : Nat} (h : i < xs.length) : (xs.map f)[((i : Int)).toNat]? = some (f (xs.getD i default)) := by
  simp [List.getElem?_map, List.getD_eq_getElem?_getD, List.getElem?_eq_getElem h]
theorem wrapi {n : Int} (h1 : -9223372036854775808 ≤ n) (h2 : n ≤ 9223372036854775807) : IntKind.i64.wrap n = n := by
  unfold IntKind.wrap
  simp [IntKind.signed, IntKind.bits]
  omega

/-- An order that a hint gives. -/
def ordH : List MC → List Nat
  | .sc (.int _ n) :: l => n.toNat :: ordH l
  | _ => []
/-- The first region of a piece of code. -/
def fstR : Code → Option Nat
  | .region id _ _ => some id
  | .seq x _ => fstR x
  | .block _ c => fstR c
  | .loop c => fstR c
  | _ => none
/-- Are new hints wanted here? -/
def askR (hs : List (Nat × Hint)) (c : Code) : Bool := match fstR c with
  | some id => (look hs (800000 + id)).isSome
  | none => false
/-- What the code asks for. Loops stay as they are. -/
def vc (k : Nat) (P : Program) (T : Tab) : Code → List (Nat × Hint) → S → (Exit → S → Prop) → Prop
  | .skip, hs, s, Q => Q .normal s
  | .exit id, hs, s, Q => Q (.exit id) s
  | .ret, hs, s, Q => match (look hs 700000).isSome with
    | true => W k P .ret s Q
    | false => Q .ret s
  | .seq x y, hs, s, Q => match askR hs x with
    | true => W k P (.seq x y) s Q
    | false => vc k P T x hs s (thn (fun s' => vc k P T y hs s' Q) Q)
  | .block id c, hs, s, Q => vc k P T c hs s (blk id Q)
  | .cond c x y, hs, s, Q => match evO s c with
    | some (.one (.sc (.bool b))) => (b = true → vc k P T x hs s Q) ∧ (b = false → vc k P T y hs s Q)
    | _ => False
  | .region _ ops false, hs, s, Q => vcOps P T hs ops ops.toList s fun s' => Q .normal s'
  | .region id ops true, hs, s, Q => match hintOf hs (some (940000 + id)) with
    | some (.row cs) => Chk (dchk hs ops ((ordH cs).headD 0)) ∧ vcOps P T hs ops ops.toList s fun s' => Q .normal s'
    | _ => match hintOf hs (some (900000 + id)) with
      | some (.row cs) => match hintOf hs (some (950000 + id)) with
        | some (.row fc) => Chk (gchk hs ops (ordH fc) (ordH cs)) ∧ vcF P T hs ops (ordH fc) (ordH cs) [] s fun s' => Q .normal s'
        | _ => Chk (gchk hs ops [] (ordH cs)) ∧ vcF P T hs ops [] (ordH cs) [] s fun s' => Q .normal s'
      | _ => Chk (dchk hs ops (ops.toList.takeWhile fun o => quiet (hintOf hs o.dst) o).length) ∧ vcOps P T hs ops ops.toList s fun s' => Q .normal s'
  | c, hs, s, Q => W k P c s Q

theorem vc_ok {k : Nat} (hT : TOk P T) (hm : P.follows .mixedOrders = true) : ∀ (c : Code) {hs : List (Nat × Hint)} (s : S) (Q : Exit → S → Prop), vc k P T c hs s Q → W k P c s Q := by
  intro c
  induction c with
  | seq x y hx hy =>
    intro hs s Q h
    simp only [vc] at h
    split at h
    · exact h
    · refine W.seq fun K hK => ?_
      refine (hx s _ h).mono fun e s' h' => ?_
      cases e <;> first | exact hK s' (hy s' Q h') | exact h'
  | block id c hc => intro hs s Q h; exact W.block (hc s _ h)
  | cond c x y hx hy =>
    intro hs s Q h
    simp only [vc] at h
    split at h
    · rename_i b he
      refine W.cond he ?_
      cases b
      · exact hy s Q (h.2 rfl)
      · exact hx s Q (h.1 rfl)
    · exact h.elim
  | region id ops d =>
    intro hs s Q h
    cases d
    · exact W.region (vcOps_ok hT _ _ _ h)
    · simp only [vc] at h
      split at h
      · exact W.drawn hs _ hT hm h.1.h h.2
      · split at h
        · split at h
          · exact W.drawnF hs _ _ hT hm h.1.h h.2
          · exact W.drawnF hs _ _ hT hm h.1.h h.2
        · exact W.drawn hs _ hT hm h.1.h h.2
  | skip => intro hs s Q h; exact W.skip h
  | exit id => intro hs s Q h; exact W.exit h
  | ret =>
    intro hs s Q h
    simp only [vc] at h
    split at h
    · exact h
    · exact W.ret h
  | _ => intro hs s Q h; exact h

/-- On with new hints. -/
theorem W.go {k : Nat} {c : Code} {s : S} {Q : Exit → S → Prop} (hs : List (Nat × Hint)) (hT : TOk P T) (hm : P.follows .mixedOrders = true) (h : vc k P T c hs s Q) : W k P c s Q := vc_ok hT hm c s Q h

/-- A loop whose head's states are a family. -/
theorem W.loopC {k : Nat} {D : Type} (hs : D → List (Nat × Hint)) (hT : TOk P T) (hm : P.follows .mixedOrders = true) {c : Code} {s : S} {Q : Exit → S → Prop} (st : D → S) (μ : D → Nat) (inv : D → Prop) (d0 : D) (bl : List (Nat × Nat)) (h0 : inv d0) (hsub : subC k bl (st d0) s)
    (h : ∀ d, inv d → vc k P T c (hs d) (st d) (thn (fun s' => ∃ (d' : D) (bl : List (Nat × Nat)), μ d' < μ d ∧ inv d' ∧ subC k bl (st d') s') Q)) : W k P (.loop c) s Q := by
  refine W.loop (fun n s' => ∃ d bl, n = μ d ∧ inv d ∧ subC k bl (st d) s') (μ d0) ⟨d0, bl, rfl, h0, hsub⟩ fun n s' ⟨d, bl, hn, hi, hsb⟩ => ?_
  refine W.ren (subC_ok hsb) (subC_pin hsb) ((vc_ok hT hm _ _ _ (h d hi)).mono fun e s'' hq => ?_)
  cases e with
  | normal =>
    obtain ⟨d', bl', h1, h2, h3⟩ := hq
    exact ⟨μ d', hn ▸ h1, d', bl', rfl, h2, h3⟩
  | _ => exact hq

/-- A FUNCTION's CONTRACT out of its reckoning. -/
theorem Pure.vc {sh : Bool} {f : Nat} {fn : Func} {c : Code} {args : List MV} {r : MV} (hs : List (Nat × Hint)) (hT : TOk P T) (hm : P.follows .mixedOrders = true) (hf : P.funcs[f]? = some fn) (hn : (fn.name == "runtime.NumGoroutine") = false) (hb : fn.body = some c) (hl : Nat.ble args.length fn.ntmps = true)
    (h : fS (S.start fn.ntmps args) fun s => vc 0 P T c hs s (endE T sh fn r)) : Pure P sh f args r := by
  rw [fS_eq] at h
  refine Pure.of hT hf hn hb (Nat.le_of_ble_eq_true hl) ((vc_ok hT hm _ _ _ h).mono fun e s h' => ?_)
  cases e <;> first | exact ⟨.inl rfl, endF_ok h'⟩ | exact ⟨.inr rfl, endF_ok h'⟩ | exact h'.elim

end Mg

/- The abstract state logic, part 22: lists that fill up, lists that are compared. No condition. -/
namespace Mg
open Go Go.RowKit
set_option linter.unusedVariables false
set_option linter.unusedSectionVars false

section
variable {α : Type} [Inhabited α]

/-- A made list, filled so far. -/
def part (c : α → List MC) (z : List MC) (xs : List α) (i : Nat) : List (List MC) := (xs.take i).map c ++ List.replicate (xs.length - i) z

theorem getD_get {xs : List α} {i : Nat} (h : i < xs.length) : xs.getD i default = xs[i] := by
  simp [List.getD_eq_getElem?_getD, List.getElem?_eq_getElem h]
theorem part_len {c : α → List MC} {z : List MC} {xs : List α} {i : Nat} (h : i ≤ xs.length) : (part c z xs i).length = xs.length := by
  simp [part]; omega
theorem part_zero {c : α → List MC} {z : List MC} {xs : List α} : part c z xs 0 = List.replicate xs.length z := by simp [part]
theorem part_all {c : α → List MC} {z : List MC} {xs : List α} {i : Nat} (h : xs.length ≤ i) : part c z xs i = xs.map c := by
  have : xs.length - i = 0 := by omega
  simp [part, this, List.take_of_length_le h]
theorem part_get {c : α → List MC} {z : List MC} {xs : List α} {i : Nat} (h : i < xs.length) : (part c z xs i).getD i [] = z := by
  have h1 : ((xs.take i).map c).length = i := by simp; omega
  unfold part
  rw [List.getD_eq_getElem?_getD, List.getElem?_append_right (by omega), h1, Nat.sub_self, List.getElem?_replicate, if_pos (by omega)]
  rfl
theorem part_set {c : α → List MC} {z : List MC} {xs : List α} {i : Nat} (h : i < xs.length) : (part c z xs i).set i (c (xs.getD i default)) = part c z xs (i + 1) := by
  have h1 : ((xs.take i).map c).length = i := by simp; omega
  unfold part
  rw [List.set_append_right _ _ (by omega), h1, Nat.sub_self]
  obtain ⟨m, hm⟩ : ∃ m, xs.length - i = m + 1 := ⟨xs.length - i - 1, by omega⟩
  have hm' : xs.length - (i + 1) = m := by omega
  rw [hm, hm', List.replicate_succ, List.set_cons_zero, List.take_succ_eq_append_getElem h, List.map_append, getD_get h]
  simp
theorem part_flat {c : α → List MC} {z : List MC} {xs : List α} {i : Nat} (hc : ∀ x, (c x).all MC.flat = true) (hz : z.all MC.flat = true) : ∀ r ∈ part c z xs i, ∀ x ∈ r, x.flat = true := fun r hr x hx => by
  unfold part at hr
  rcases List.mem_append.1 hr with h | h
  · obtain ⟨y, _, rfl⟩ := List.mem_map.1 h
    exact List.all_eq_true.1 (hc y) x hx
  · rw [(List.mem_replicate.1 h).2] at hx
    exact List.all_eq_true.1 hz x hx
theorem map_frz {c : α → List MC} {xs : List α} (hc : ∀ x, (c x).all MC.frz = true) : ∀ r ∈ xs.map c, ∀ x ∈ r, x.frz = true := fun r hr x hx => by
  obtain ⟨y, _, rfl⟩ := List.mem_map.1 hr
  exact List.all_eq_true.1 (hc y) x hx

theorem eq_upto {xs ys : List α} {i : Nat} (hl : xs.length = ys.length) (hi : i < xs.length) (hp : xs.take i = ys.take i) (he : xs.getD i default = ys.getD i default) : xs.take (i + 1) = ys.take (i + 1) := by
  have e : xs[i] = ys[i]'(by omega) := by rwa [getD_get hi, getD_get (by omega)] at he
  rw [List.take_succ_eq_append_getElem hi, List.take_succ_eq_append_getElem (by omega), hp, e]
theorem eq_all {xs ys : List α} {i : Nat} (hl : xs.length = ys.length) (hi : xs.length ≤ i) (hp : xs.take i = ys.take i) : xs = ys := by
  rwa [List.take_of_length_le hi, List.take_of_length_le (by omega)] at hp

/- The steps of a loop that fills a made list. -/
theorem sPart0 {c : α → List MC} {z : List MC} {xs : List α} {n : Nat} (h : n = xs.length) : Side (part c z xs 0 = List.replicate n z) := ⟨by rw [part_zero, h]⟩
theorem sFlat {c : α → List MC} {z : List MC} {xs : List α} {i : Nat} (hc : ∀ x, (c x).all MC.flat = true) (hz : z.all MC.flat = true) : Side (∀ r ∈ part c z xs i, ∀ x ∈ r, x.flat = true) := ⟨part_flat hc hz⟩
theorem sIdx {c : α → List MC} {z : List MC} {xs : List α} {i n k : Nat} (h : i < xs.length) (hn : n = xs.length) (hz : z.length = k) :
    Side ((0 ≤ (i : Int) ∧ (i : Int) < (n : Int)) ∧ 0 + ((i : Int)).toNat < (part c z xs i).length ∧ ((part c z xs i).getD (0 + ((i : Int)).toNat) []).length = k) := by
  refine ⟨⟨by omega, by omega⟩, ?_, ?_⟩
  · rw [part_len (by omega)]; simp; omega
  · simp only [Int.toNat_natCast, Nat.zero_add, part_get h, hz]
theorem sPut {c : α → List MC} {z cs : List MC} {xs : List α} {i k : Nat} (h : i < xs.length) (hz : Nat.ble cs.length z.length = true) (hk : cs.length = k) :
    Side ((0 + ((i : Int)).toNat < (part c z xs i).length ∧ 0 + cs.length ≤ ((part c z xs i).getD (0 + ((i : Int)).toNat) []).length) ∧ cs.length = k) := by
  refine ⟨⟨?_, ?_⟩, hk⟩
  · rw [part_len (by omega)]; simp; omega
  · simp only [Int.toNat_natCast, Nat.zero_add, part_get h]; exact Nat.le_of_ble_eq_true hz
theorem sPartS {c : α → List MC} {z cs : List MC} {xs : List α} {i : Nat} (h : i < xs.length) (hp : putAt z 0 cs = c (xs.getD i default)) :
    Side (part c z xs (i + 1) = (part c z xs i).set (0 + ((i : Int)).toNat) (putAt ((part c z xs i).getD (0 + ((i : Int)).toNat) []) 0 cs)) := by
  refine ⟨?_⟩
  simp only [Int.toNat_natCast, Nat.zero_add, part_get h, hp, part_set h]
theorem part_end {c : α → List MC} {z : List MC} {xs : List α} {i n : Nat} (h : xs.length ≤ i) (hn : n = xs.length) : ((part c z xs i).drop 0).take n = xs.map c := by
  rw [part_all h, List.drop_zero, List.take_of_length_le (by simp [hn])]
end

theorem wrap_succ {i n : Nat} (h : i < n) (hn : n ≤ 9223372036854775807) : ((i + 1 : Nat) : Int) = IntKind.i64.wrap ((i : Int) + 1) := by
  rw [wrapi] <;> omega
theorem sAll {T : Tab} {l : List (Nat × Nat)} (h : (l.all fun g => (T g.2).isSome) = true) : Side (True ∧ ∀ g ∈ l, (T g.2).isSome = true) :=
  ⟨trivial, fun g hg => List.all_eq_true.1 h g hg⟩
theorem sBld {T : Tab} {a : Prop} {l : List (Nat × Nat)} (h1 : a) (h : (l.all fun g => (T g.2).isSome) = true) : Side (a ∧ ∀ g ∈ l, (T g.2).isSome = true) :=
  ⟨h1, fun g hg => List.all_eq_true.1 h g hg⟩
theorem sBS {a : Prop} {sz k m n : Nat} {cs : List MC} (h1 : a) (h2 : Nat.blt 0 sz = true) (h3 : Nat.ble (k * sz) 16777216 = true) (h4 : cs.length = n) (h5 : cs.all MC.frz = true) : Side (a ∧ (0 < sz ∧ k * sz ≤ 16777216) ∧ cs.length = n ∧ ∀ x ∈ cs, x.bd m) :=
  ⟨h1, ⟨Nat.lt_of_lt_of_le (Nat.lt_of_lt_of_le (Nat.zero_lt_one) (Nat.le_of_ble_eq_true h2)) (Nat.le_refl _), Nat.le_of_ble_eq_true h3⟩, h4, fun x hx => MC.bd_frz (List.all_eq_true.1 h5 x hx)⟩
theorem sBSF {a : Prop} {sz k n : Nat} {cs : List MC} (h1 : a) (h2 : Nat.blt 0 sz = true) (h3 : Nat.ble (k * sz) 16777216 = true) (h4 : cs.length = n) (h5 : (cs.all fun x => x.nf.frz) = true) : Side (a ∧ (0 < sz ∧ k * sz ≤ 16777216) ∧ cs.length = n ∧ ∀ x ∈ cs, x.nf.frz = true) :=
  ⟨h1, ⟨Nat.lt_of_lt_of_le (Nat.lt_of_lt_of_le (Nat.zero_lt_one) (Nat.le_of_ble_eq_true h2)) (Nat.le_refl _), Nat.le_of_ble_eq_true h3⟩, h4, fun x hx => List.all_eq_true.1 h5 x hx⟩
theorem sF1 {rows : List (List MC)} (h : (rows.all fun r => r.all MC.frz) = true) : Side (AllF rows ∧ True) :=
  ⟨fun r hr c hc => List.all_eq_true.1 (List.all_eq_true.1 h r hr) c hc, trivial⟩
end Mg

/- The abstract state logic, part 39: contracts of functions that make trees, and of functions that write them, out of their bodies. No condition. -/
namespace Mg
open Go Go.RowKit
set_option linter.unusedVariables false

variable {P : Program} {T : Tab}

/-- The blocks at a place of a row of results. -/
def setAt (vs : List MV) (i j : Nat) : Bk := fun b => inC b ((cellsV (vs.getD i .un)).getD j .dead)
def endC : MC → MC → Prop
  | .sc u, .sc v => Side (u = v)
  | .tr true _ _ rows, .fz rows' => Side (rows = rows')
  | .nil, .fz rows' => Side (rows' = [])
  | _, _ => False
def endL : List MC → List MC → Prop
  | [], [] => True
  | c :: cs, d :: ds => endC c d ∧ endL cs ds
  | _, _ => False
def end1 : MV → MV → Prop
  | .one c, .one d => endC c d
  | .agg cs, .agg ds => endL cs ds
  | _, _ => False
def endVs : List MV → List MV → Prop
  | [], [] => True
  | c :: cs, d :: ds => end1 c d ∧ endVs cs ds
  | _, _ => False

theorem endC_ok {st : Sto} {L : Lay} {w : World} {F : FF} {c d : MC} {v : Value} (h : RC st L w F c v) (he : endC c d) : RT w (labc true ⟨fun b => inC b c, v⟩ d) v ∧ ∀ b, inC b c → F.n b ∧ ¬ F.a b := by
  unfold endC at he
  split at he
  · obtain ⟨rfl⟩ := he
    exact ⟨h, fun b hb => hb.elim⟩
  · obtain ⟨rfl⟩ := he
    exact ⟨⟨rfl, h.2.2⟩, fun b hb => (h.2.1 b hb).2 rfl⟩
  · obtain ⟨rfl⟩ := he
    obtain ⟨a, rfl⟩ := h
    exact ⟨⟨rfl, TR.nilz a _ fun _ h => h⟩, fun b hb => hb.elim⟩
  · exact he.elim
theorem endL_get : ∀ {cs ds : List MC}, endL cs ds → cs.length = ds.length ∧ ∀ (j : Nat) (d : MC), ds[j]? = some d → ∃ c, cs[j]? = some c ∧ endC c d
  | [], [], _ => ⟨rfl, fun j d hj => by simp at hj⟩
  | c :: cs, d :: ds, h => by
    obtain ⟨h1, h2⟩ := endL_get h.2
    refine ⟨by simp [h1], fun j x hj => ?_⟩
    cases j with
    | zero => obtain rfl := Option.some.inj hj; exact ⟨c, rfl, h.1⟩
    | succ j => exact h2 j x hj
  | [], _ :: _, h => h.elim
  | _ :: _, [], h => h.elim
theorem endVs_get : ∀ {cs ds : List MV}, endVs cs ds → cs.length = ds.length ∧ ∀ (j : Nat) (d : MV), ds[j]? = some d → ∃ c, cs[j]? = some c ∧ end1 c d
  | [], [], _ => ⟨rfl, fun j d hj => by simp at hj⟩
  | c :: cs, d :: ds, h => by
    obtain ⟨h1, h2⟩ := endVs_get h.2
    refine ⟨by simp [h1], fun j x hj => ?_⟩
    cases j with
    | zero => obtain rfl := Option.some.inj hj; exact ⟨c, rfl, h.1⟩
    | succ j => exact h2 j x hj
  | [], _ :: _, h => h.elim
  | _ :: _, [], h => h.elim

theorem getD_of {α : Type} {l : List α} {i : Nat} {x d : α} (h : l[i]? = some x) : l.getD i d = x := by rw [List.getD_eq_getElem?_getD, h]; rfl

theorem end1_ok {st : Sto} {L : Lay} {w : World} {F : FF} {c d : MV} {v : Value} (h : RV1 st L w F c v) (he : end1 c d) :
    ∃ U : Nat → Value, RT1 w (lab1 true (fun j => ⟨fun b => inC b ((cellsV c).getD j .dead), U j⟩) d) v ∧ ∀ j b, inC b ((cellsV c).getD j .dead) → F.n b ∧ ¬ F.a b := by
  cases c with
  | one c => cases d with
    | one d =>
      obtain ⟨h1, h2⟩ := endC_ok h he
      refine ⟨fun _ => v, h1, fun j b hb => ?_⟩
      cases j with
      | zero => exact h2 b hb
      | succ j => exact (by simp [cellsV, inC] at hb : False).elim
    | _ => exact he.elim
  | agg cs => cases d with
    | agg ds =>
      obtain ⟨arr, rfl, h1, h2⟩ := h
      obtain ⟨h3, h4⟩ := endL_get he
      refine ⟨fun j => arr.getD j undef, ⟨arr, rfl, by rw [labRow_len, h1, h3], fun j c hj => ?_⟩, fun j b hb => ?_⟩
      · rw [labRow_get] at hj
        obtain ⟨d, hd, rfl⟩ := Option.map_eq_some_iff.1 hj
        obtain ⟨c, hc, hcd⟩ := h4 j d hd
        obtain ⟨u, hu, hr⟩ := h2 j c hc
        refine ⟨u, hu, ?_⟩
        have e1 : arr.getD (0 + j) undef = u := by rw [Nat.zero_add, Array.getD_eq_getD_getElem?, hu]; rfl
        have e2 : (cellsV (.agg cs)).getD (0 + j) .dead = c := by rw [Nat.zero_add]; exact getD_of hc
        show RT w (labc true ⟨fun b => inC b ((cellsV (.agg cs)).getD (0 + j) .dead), arr.getD (0 + j) undef⟩ d) u
        rw [e1, e2]
        exact (endC_ok hr hcd).1
      · cases hc : cs[j]? with
        | none =>
          have : (cellsV (.agg cs)).getD j .dead = .dead := by show cs.getD j .dead = _; rw [List.getD_eq_getElem?_getD, hc]; rfl
          rw [this] at hb; exact hb.elim
        | some c =>
          have : (cellsV (.agg cs)).getD j .dead = c := getD_of hc
          rw [this] at hb
          have hlt := (List.getElem?_eq_some_iff.1 hc).1
          obtain ⟨c', hc', hcd⟩ := h4 j ds[j] (List.getElem?_eq_getElem (by omega))
          rw [hc] at hc'
          obtain rfl := Option.some.inj hc'
          obtain ⟨u, hu, hr⟩ := h2 j c hc
          exact (endC_ok hr hcd).2 b hb
    | _ => exact he.elim
  | un => exact he.elim
  | tup _ => exact he.elim

/-- The end of a function that makes trees. -/
def endTF (T : Tab) (fn : Func) (r : MV) (s : S) : Prop :=
  match resL T s fn.results.toList with
  | some (p, [v]) => match v with
    | .one (.ref id off len) => match look s.st id, r with
      | some (.arr rows), .one (.fz rows') => Side p ∧ Chk (Nat.beq off 0) ∧ ∃ B, Side (len = rows'.length ∧ rows = labR true B 0 rows') ∧ Side (Apart B) ∧ Side (AllF rows')
      | _, _ => False
    | v => Side p ∧ end1 v r ∧ Side (Apart fun i j => ⟨setAt [v] i j, undef⟩)
  | some (p, vs) => match r with
    | .tup xs => Side p ∧ endVs vs xs ∧ Side (Apart fun i j => ⟨setAt vs i j, undef⟩)
    | _ => False
  | none => False
def endTE (T : Tab) (fn : Func) (r : MV) : Exit → S → Prop
  | .normal, s => endTF T fn r s
  | .ret, s => endTF T fn r s
  | _, _ => False

theorem results_run {fn : Func} {tmps : Array Value} {w' : World} {us : List Value} (hu : (fn.results.toList.mapM (resS tmps)).run P w' = .ok us w') : (results fn tmps).run P w' = .ok (if h : us.toArray.size = 1 then us.toArray[0] else .tuple us.toArray) w' := by
  rw [results_list]
  have : ∀ arr : Array ResultVar, arr.mapM (resS tmps) = List.toArray <$> arr.toList.mapM (resS tmps) := fun arr => by
    cases arr; exact List.mapM_toArray
  rw [Sem.run_bind, this, Sem.run_map, hu]
  rfl

/-- A list in a block of its own, whose rows read as trees, is a tree. -/
theorem tree_of {w0 : World} {wr : Wr} {A : Nat → Prop} {L : Lay} {F : FF} {s : S} {a : Act} {w : World} (h : Rl w0 wr A L F s a w) {id len : Nat} {rows : List (List MC)} {B : Nat → Nat → Tk} {v : Value}
    (hv : RC (look s.st) L w F (.ref id 0 len) v) (hid : look s.st id = some (.arr (labR true B 0 rows))) (hlen : len = rows.length) (hap : Apart B) (hall : AllF rows) :
    ∃ N : Bk, TR w (.fz rows) v N ∧ (∀ b, N b → ¬ F.a b ∧ b < w.heap.size ∧ (w0.heap.size ≤ b ∨ wr b ∨ wr.o b)) ∧ ((rows = [] ∧ ∀ b, ¬ N b) ∨ ∃ b s', L id = some (b, s') ∧ ∀ x, N x ↔ x = b ∨ ∃ i j r c, rows[i]? = some r ∧ r[j]? = some c ∧ inC x (labc true (B i j) c)) := by
  subst hlen
  obtain ⟨a', cap, rfl, hle, hx⟩ := hv.2 _ hid
  have hll : (labR true B 0 rows).length = rows.length := labR_len _ _ _ _
  rcases hx with ⟨b, st, hL, rfl, hcap, hne, hcs⟩ | ⟨h0, rfl⟩
  · rcases h.ob id _ hid with ⟨hnil, _⟩ | ⟨b', st', hL', hf, hs, hw⟩
    · exact absurd hnil hne
    · rw [hL] at hL'
      obtain ⟨rfl, rfl⟩ := Prod.mk.inj (Option.some.inj hL')
      have hown := h.own id b st (by rw [hid]; rfl) hL
      have hrow : ∀ i r, rows[i]? = some r → (labR true B 0 rows)[i]? = some (labRow true (B i) 0 r) := fun i r hi => by rw [labR_get, hi, Nat.zero_add]; rfl
      have hcell : ∀ i r j c, rows[i]? = some r → r[j]? = some c → ∃ u, w.cell? ⟨b, i * st + j, none⟩ = some u ∧ RC (look s.st) L w F (labc true (B i j) c) u := fun i r j c hi hj =>
        hw i _ (hrow i r hi) j _ (by rw [labRow_get, hj, Nat.zero_add]; rfl)
      have hsub : ∀ i r j c x, rows[i]? = some r → r[j]? = some c → inC x (labc true (B i j) c) → F.n x ∧ ¬ F.a x := fun i r j c x hi hj hx => by
        obtain ⟨u, _, hr⟩ := hcell i r j c hi hj
        have hfz := hall r (List.mem_of_getElem? hi) c (List.mem_of_getElem? hj)
        cases c <;> first | (cases hfz; done) | exact hx.elim | exact (hr.2.1 x hx).2 rfl
      refine ⟨fun x => x = b ∨ ∃ i j r c, rows[i]? = some r ∧ r[j]? = some c ∧ inC x (labc true (B i j) c), ?_, ?_, .inr ⟨b, st, hL, fun x => Iff.rfl⟩⟩
      · rw [Nat.zero_mul]
        refine .fz rows b cap st (fun i j => (w.cell? ⟨b, i * st + j, none⟩).getD undef) (fun i j x => ∃ r c, rows[i]? = some r ∧ r[j]? = some c ∧ inC x (labc true (B i j) c)) _ (fun e => hne (by subst e; rfl)) hf (fun r hr => ?_) hcap (fun j hj => hcs j (by simpa using hj)) hown.2.1
          (fun i j r c hi hj => ?_) (fun i j r c hi hj => ?_) (fun i j i' j' x ⟨r, c, h1, h2, h3⟩ ⟨r', c', h4, h5, h6⟩ => ?_) (fun i j ⟨r, c, h1, h2, h3⟩ => ?_) (fun x => ⟨?_, ?_⟩) (fun i j x ⟨r, c, h1, h2, _⟩ => ⟨r, c, h1, h2⟩)
        · obtain ⟨i, hi⟩ := List.getElem?_of_mem hr
          have := hs _ (List.mem_of_getElem? (hrow i r hi))
          rwa [labRow_len] at this
        · obtain ⟨u, hu, _⟩ := hcell i r j c hi hj
          simp [hu]
        · obtain ⟨u, hu, hr⟩ := hcell i r j c hi hj
          have hfz := hall r (List.mem_of_getElem? hi) c (List.mem_of_getElem? hj)
          simp only [hu, Option.getD_some]
          cases c <;> first | (cases hfz; done) | skip
          · obtain ⟨rfl, h1⟩ := hr
            exact .sc _ _ h1 fun x ⟨r', c', h1, h2, h3⟩ => by
              rw [hi] at h1; obtain rfl := Option.some.inj h1
              rw [hj] at h2; obtain rfl := Option.some.inj h2
              exact h3
          · obtain ⟨rfl, _, h1⟩ := hr
            have : (fun x => ∃ r' c', rows[i]? = some r' ∧ r'[j]? = some c' ∧ inC x (labc true (B i j) c')) = (B i j).B := by
              funext x
              refine propext ⟨fun ⟨r', c', h1, h2, h3⟩ => ?_, fun hx => ⟨r, _, hi, hj, hx⟩⟩
              rw [hi] at h1; obtain rfl := Option.some.inj h1
              rw [hj] at h2; obtain rfl := Option.some.inj h2
              exact h3
            rw [this]; exact h1
        · have hB : ∀ {i j c x}, inC x (labc true (B i j) c) → c.frz = true → (B i j).B x := fun {i j c x} h hf => by
            cases c <;> first | (cases hf; done) | exact h.elim | exact h
          exact hap i j i' j' x (hB h3 (hall r (List.mem_of_getElem? h1) c (List.mem_of_getElem? h2))) (hB h6 (hall r' (List.mem_of_getElem? h4) c' (List.mem_of_getElem? h5)))
        · exact hown.1 (.inl (hsub i r j c b h1 h2 h3).1)
        · rintro (rfl | ⟨i, j, r, c, h1, h2, h3⟩)
          · exact .inl rfl
          · exact .inr ⟨i, j, r, c, h1, h2, h3⟩
        · rintro (rfl | ⟨i, j, r, c, h1, h2, h3⟩)
          · exact .inl rfl
          · exact .inr ⟨i, j, r, c, h1, h2, h3⟩
      · rintro x (rfl | ⟨i, j, r, c, h1, h2, h3⟩)
        · exact ⟨fun hf => hown.1 (.inr hf), hown.2.1, hown.2.2.imp (fun h => h) .inl⟩
        · obtain ⟨g1, g2⟩ := hsub i r j c x h1 h2 h3
          exact ⟨g2, h.fsz x (.inl g1), h.fn x g1⟩
  · have : rows = [] := List.eq_nil_of_length_eq_zero h0
    subst this
    exact ⟨fun _ => False, .nilz _ _ fun _ h => h, fun b hb => hb.elim, .inl ⟨rfl, fun _ h => h⟩⟩

theorem endT_ok {w : World} {A : Nat → Prop} {L : Lay} {F : FF} {s : S} {a : Act} {w' : World} (hT : TOk P T) (h : Rl w ⟨fun _ => False, 0, fun _ => none, fun _ => False⟩ A L F s a w') {fn : Func} {r : MV} (he : endTF T fn r s) :
    ∃ v, (results fn a.tmps).run P w' = .ok v w' ∧ ∃ B : Nat → Nat → Tk, Below w.heap.size w w' ∧ RTV w' (lab true B r) v ∧ Apart B ∧ ∀ b, Any B b → w.heap.size ≤ b ∧ b < w'.heap.size := by
  have hbel : Below w.heap.size w w' := ⟨h.os, h.tape, h.output, h.size, fun k hk => h.keep k hk (fun x => x)⟩
  have hnew : ∀ b, F.n b ∧ ¬ F.a b → w.heap.size ≤ b ∧ b < w'.heap.size := fun b hb => ⟨(h.fn b hb.1).resolve_right (fun x => x.elim (fun h => h) (fun h => h)), h.fsz b (.inl hb.1)⟩
  unfold endTF at he
  split at he
  · rename_i p1 v1 hres
    have one : ∀ hp : p1, ∃ u, (fn.results.toList.mapM (resS a.tmps)).run P w' = .ok [u] w' ∧ RV (look s.st) L w' F v1 u := fun hp => by
      obtain ⟨us, hus, hlen, hr⟩ := resL_ok hT h hres hp
      obtain ⟨u, hu, hru⟩ := hr 0 v1 rfl
      have hus1 : us = [u] := by
        cases us with
        | nil => simp at hlen
        | cons x t =>
          obtain rfl : x = u := by simpa using hu
          have : t = [] := List.eq_nil_of_length_eq_zero (by simpa using hlen)
          rw [this]
      exact ⟨u, hus1 ▸ hus, hru⟩
    split at he
    · rename_i id off len
      split at he
      · rename_i rows rows' hid
        obtain ⟨⟨hp⟩, ⟨hoff⟩, B, ⟨hl, rfl⟩, ⟨hap⟩, ⟨hall⟩⟩ := he
        obtain rfl : off = 0 := Nat.eq_of_beq_eq_true hoff
        obtain ⟨u, hus, hru⟩ := one hp
        obtain ⟨N, hN, hNn, _⟩ := tree_of h hru hid hl hap hall
        refine ⟨u, by simpa using results_run hus, fun i j => match i, j with | 0, 0 => ⟨N, u⟩ | _, _ => ⟨fun _ => False, undef⟩, hbel, ⟨rfl, hN⟩, ?_, ?_⟩
        · intro i j i' j' x h1 h2
          cases i <;> cases j <;> cases i' <;> cases j' <;> first | exact ⟨rfl, rfl⟩ | exact h1.elim | exact h2.elim
        · rintro b ⟨i, j, hb⟩
          cases i <;> cases j <;> first | exact hb.elim | skip
          obtain ⟨_, g2, g3⟩ := hNn b hb
          exact ⟨g3.resolve_right (fun x => x.elim (fun h => h) (fun h => h)), g2⟩
      · exact he.elim
    · obtain ⟨⟨hp⟩, he1, ⟨hap⟩⟩ := he
      obtain ⟨u, hus, hru⟩ := one hp
      have hru1 : RV1 (look s.st) L w' F v1 u := by cases v1 <;> first | exact hru | exact he1.elim
      obtain ⟨U, h1, h2⟩ := end1_ok hru1 he1
      refine ⟨u, by simpa using results_run hus, fun i j => match i with | 0 => ⟨setAt [v1] 0 j, U j⟩ | _ + 1 => ⟨fun _ => False, undef⟩, hbel, ?_, ?_, ?_⟩
      · cases r <;> first | exact h1 | (cases v1 <;> exact he1.elim)
      · intro i j i' j' x g1 g2
        cases i <;> cases i' <;> first | exact g1.elim | exact g2.elim | skip
        exact hap 0 j 0 j' x g1 g2
      · rintro b ⟨i, j, hb⟩
        cases i <;> first | exact hb.elim | skip
        exact hnew b (h2 j b hb)
  · rename_i p1 vs hne hres
    split at he
    · rename_i xs
      obtain ⟨⟨hp⟩, he1, ⟨hap⟩⟩ := he
      obtain ⟨us, hus, hlen, hr⟩ := resL_ok hT h hres hp
      have hone : us.toArray.size ≠ 1 := fun e => by
        have : vs.length = 1 := by rw [← hlen]; simpa using e
        obtain ⟨v, rfl⟩ := List.length_eq_one_iff.1 this
        exact hne v rfl
      obtain ⟨h3, h4⟩ := endVs_get he1
      have key : ∀ i, ∃ U : Nat → Value, ∀ d, xs[i]? = some d → ∃ u, us[i]? = some u ∧ RT1 w' (lab1 true (fun j => ⟨setAt vs i j, U j⟩) d) u ∧ ∀ j b, setAt vs i j b → F.n b ∧ ¬ F.a b := fun i => by
        cases hd : xs[i]? with
        | none => exact ⟨fun _ => undef, fun d h => by cases h⟩
        | some d =>
          obtain ⟨c, hc, hcd⟩ := h4 i d hd
          obtain ⟨u, hu, hru⟩ := hr i c hc
          have hru1 : RV1 (look s.st) L w' F c u := by cases c <;> first | exact hru | exact hcd.elim
          obtain ⟨U, g1, g2⟩ := end1_ok hru1 hcd
          have e : vs.getD i .un = c := getD_of hc
          refine ⟨U, fun d' hd' => ?_⟩
          obtain rfl := Option.some.inj hd'
          refine ⟨u, hu, ?_, ?_⟩
          · unfold setAt; rw [e]; exact g1
          · intro j b hb; unfold setAt at hb; rw [e] at hb; exact g2 j b hb
      let U : Nat → Nat → Value := fun i => Classical.choose (key i)
      have hU := fun i => Classical.choose_spec (key i)
      refine ⟨.tuple us.toArray, by have := results_run hus; rwa [dif_neg hone] at this, fun i j => ⟨setAt vs i j, U i j⟩, hbel, ⟨us.toArray, rfl, ?_, fun i x hx => ?_⟩, hap, ?_⟩
      · rw [labT_len]; simp only [List.size_toArray]; omega
      · rw [labT_get] at hx
        obtain ⟨d, hd, rfl⟩ := Option.map_eq_some_iff.1 hx
        obtain ⟨u, g1, g2, _⟩ := hU i d hd
        exact ⟨u, by simpa using g1, by rw [Nat.zero_add]; exact g2⟩
      · rintro b ⟨i, j, hb⟩
        cases hd : xs[i]? with
        | none =>
          have hv : vs[i]? = none := List.getElem?_eq_none (by have := List.getElem?_eq_none_iff.1 hd; omega)
          have : vs.getD i .un = .un := by rw [List.getD_eq_getElem?_getD, hv]; rfl
          have hb : setAt vs i j b := hb
          unfold setAt at hb
          rw [this] at hb
          exact (by simp [cellsV, inC] at hb : False).elim
        | some d =>
          obtain ⟨u, _, _, g3⟩ := hU i d hd
          exact hnew b (g3 j b hb)
    · exact he.elim
  · exact he.elim

/-- A CONTRACT of a function that makes trees, out of its reckoning. -/
theorem TPure.vc {f : Nat} {fn : Func} {c : Code} {args : List MV} {r : MV} (hs : List (Nat × Hint)) (hT : TOk P T) (hm : P.follows .mixedOrders = true) (hf : P.funcs[f]? = some fn) (hn : (fn.name == "runtime.NumGoroutine") = false) (hb : fn.body = some c) (hl : Nat.ble args.length fn.ntmps = true)
    (h : fS (S.start fn.ntmps args) fun s => Mg.vc 0 P T c hs s (endTE T fn r)) : TPure P f args r := by
  rw [fS_eq] at h
  refine ⟨⟨fn, hf, hn, by rw [hb]; rfl⟩, ?_⟩
  intro w A vals hsz hv hA hgt
  refine calls_of_wp hf hb (wp_mono (vc_ok hT hm _ _ _ h w ⟨fun _ => False, 0, fun _ => none, fun _ => False⟩ A _ w ⟨rfl, hgt, fun _ h => h.elim⟩ (start_rel hsz (Nat.le_of_ble_eq_true hl) hv hA)) fun e a w' ⟨s, ⟨L, F, hr⟩, he⟩ => ?_)
  have key : endTF T fn r s → a.defers = [] ∧ ∃ v, (results fn a.tmps).run P w' = .ok v w' ∧ ∃ (v' : Value) (B : Nat → Nat → Tk), Ending.returned v = .returned v' ∧ Below w.heap.size w w' ∧ RTV w' (lab true B r) v' ∧ Apart B ∧ ∀ b, Any B b → w.heap.size ≤ b ∧ b < w'.heap.size := fun he => by
    obtain ⟨v, h1, B, h2, h3, h4, h5⟩ := endT_ok hT hr he
    exact ⟨hr.df, v, h1, v, B, rfl, h2, h3, h4, h5⟩
  cases e <;> first | exact key he | exact he.elim

/- ------------------------------------------------ laws: the arguments' slices, told with their blocks -/
def envT (A : Bk) (U : Nat → Nat → Value) : Nat → List MV → List (Nat × MV)
  | _, [] => []
  | k, x :: xs => (k, lab1 false (fun j => ⟨A, U k j⟩) x) :: envT A U (k + 1) xs
theorem look_envT (A : Bk) (U : Nat → Nat → Value) : ∀ (xs : List MV) (k j : Nat), look (envT A U k xs) j = if k ≤ j then (xs[j - k]?).map (lab1 false fun i => ⟨A, U j i⟩) else none
  | [], k, j => by simp [envT]
  | x :: xs, k, j => by
    simp only [envT, look_cons]
    by_cases e : j = k
    · subst e; simp
    · rw [if_neg e, look_envT A U xs (k + 1) j]
      by_cases h : k ≤ j
      · rw [if_pos (by omega), if_pos h, show j - k = (j - (k + 1)) + 1 by omega]; rfl
      · rw [if_neg (by omega), if_neg h]
def S.startT (A : Bk) (U : Nat → Nat → Value) (m : Nat) (args : List MV) : S := ⟨m, 0, envT A U 0 args, []⟩

theorem FV.rt {w : World} {A : Nat → Prop} {x : MV} {v : Value} (h : FV w A x v) : ∃ U : Nat → Value, RT1 w (lab1 false (fun j => ⟨A, U j⟩) x) v := by
  cases x with
  | one c => exact ⟨fun _ => v, RF.rt h⟩
  | agg cs =>
    obtain ⟨arr, rfl, h1, h2⟩ := h
    refine ⟨fun j => arr.getD j undef, arr, rfl, by rw [labRow_len, h1], fun j c hj => ?_⟩
    rw [labRow_get] at hj
    obtain ⟨d, hd, rfl⟩ := Option.map_eq_some_iff.1 hj
    obtain ⟨u, hu, hr⟩ := h2 j d hd
    have e1 : arr.getD (0 + j) undef = u := by rw [Nat.zero_add, Array.getD_eq_getD_getElem?, hu]; rfl
    exact ⟨u, hu, by show RT w (labc false ⟨A, arr.getD (0 + j) undef⟩ d) u; rw [e1]; exact hr.rt⟩
  | un => exact h.elim
  | tup _ => exact h.elim
theorem RT1.rva {w : World} {st : Sto} {L : Lay} {A : Nat → Prop} {o : Nat → Value} {x : MV} {v : Value} (hp : plain1 x = true) (h : RT1 w (lab1 false (fun j => ⟨A, o j⟩) x) v) : RV1 st L w ⟨fun _ => False, A⟩ (lab1 false (fun j => ⟨A, o j⟩) x) v := by
  have hc : ∀ {c : MC} {u u' : Value}, plainC c = true → RT w (labc false ⟨A, u'⟩ c) u → RC st L w ⟨fun _ => False, A⟩ (labc false ⟨A, u'⟩ c) u := fun {c u u'} hp h => by
    cases c <;> first | exact h.elim | exact h | (cases hp; done) | exact ⟨h.1, fun b hb => ⟨.inr hb, fun ho => by cases ho⟩, h.2⟩
  cases x with
  | one c => exact hc hp h
  | agg cs =>
    obtain ⟨arr, rfl, h1, h2⟩ := h
    refine ⟨arr, rfl, h1, fun j c hj => ?_⟩
    obtain ⟨u, hu, hr⟩ := h2 j c hj
    refine ⟨u, hu, ?_⟩
    rw [labRow_get] at hj
    obtain ⟨d, hd, rfl⟩ := Option.map_eq_some_iff.1 hj
    exact hc (List.all_eq_true.1 hp d (List.mem_of_getElem? hd)) hr
  | un => exact h.elim
  | tup _ => exact h.elim

/-- A LAW, its arguments told with their blocks, out of its reckoning. -/
theorem Law.vc {f : Nat} {fn : Func} {c : Code} {args : List MV} {r : MV} (hs : List (Nat × Hint)) (hT : TOk P T) (hm : P.follows .mixedOrders = true) (hf : P.funcs[f]? = some fn) (hn : (fn.name == "runtime.NumGoroutine") = false) (hb : fn.body = some c) (hl : Nat.ble args.length fn.ntmps = true) (hpl : args.all plain1 = true)
    (h : ∀ A U, fS (S.startT A U fn.ntmps args) fun s => Mg.vc 0 P T c hs s (endE T false fn r)) : Pure P false f args r := by
  refine ⟨⟨fn, hf, hn, by rw [hb]; rfl⟩, ?_⟩
  intro w A vals hsz hv hA hgt
  have hU : ∀ i : Nat, ∃ U : Nat → Value, ∀ x, args[i]? = some x → ∃ v, vals[i]? = some v ∧ RT1 w (lab1 false (fun j => ⟨A, U j⟩) x) v := fun i => by
    cases hx : args[i]? with
    | none => exact ⟨fun _ => undef, fun x h => by cases h⟩
    | some x =>
      obtain ⟨v, h1, h2⟩ := hv i x hx
      obtain ⟨U, h3⟩ := h2.rt
      exact ⟨U, fun y hy => by obtain rfl := Option.some.inj hy; exact ⟨v, h1, h3⟩⟩
  let U : Nat → Nat → Value := fun i => Classical.choose (hU i)
  have hUs := fun i => Classical.choose_spec (hU i)
  have hlen : args.length ≤ fn.ntmps := Nat.le_of_ble_eq_true hl
  have hstart : Rel w ⟨fun _ => False, 0, fun _ => none, fun _ => False⟩ A (S.startT A U fn.ntmps args) { tmps := vals ++ Array.replicate (fn.ntmps - vals.size) undef, defers := [] } w := by
    have hlk : ∀ t v, look (S.startT A U fn.ntmps args).env t = some v → ∃ x, args[t]? = some x ∧ v = lab1 false (fun j => ⟨A, U t j⟩) x := fun t v ht => by
      have ht : look (envT A U 0 args) t = some v := ht
      rw [look_envT, if_pos (Nat.zero_le _), Nat.sub_zero] at ht
      obtain ⟨x, hx, rfl⟩ := Option.map_eq_some_iff.1 ht
      exact ⟨x, hx, rfl⟩
    have hread : ∀ t v, look (S.startT A U fn.ntmps args).env t = some v → ∃ u, vals[t]? = some u ∧ RV1 (look []) (fun _ => none) w ⟨fun _ => False, A⟩ v u ∧ v.bd 0 := fun t v ht => by
      obtain ⟨x, hx, rfl⟩ := hlk t v ht
      obtain ⟨u, hu, hr⟩ := hUs t x hx
      refine ⟨u, hu, hr.rva (List.all_eq_true.1 hpl x (List.mem_of_getElem? hx)), ?_⟩
      have := hr.bd (n := 0)
      cases x <;> first | exact this | exact hr.elim
    refine ⟨fun _ => none, ⟨fun _ => False, A⟩, rfl, rfl, rfl, Nat.le_refl _, fun _ _ _ => rfl, fun _ _ _ h => h, fun i hi => absurd hi (Nat.not_lt_zero i), rfl, fun b hb => hb.elim, ?_, ?_, ?_, ?_, ?_, ?_, ?_, ?_, rfl⟩
    · rintro b (hb | hb)
      · exact hb.elim
      · exact hA b hb
    · intro id o ho; simp [S.startT] at ho
    · intro id b t h1; simp [S.startT] at h1
    · intro i j b t u h1; simp [S.startT] at h1
    · simp [S.startT]; omega
    · intro t v ht
      obtain ⟨u, hu, hr, _⟩ := hread t v ht
      have hlt : t < vals.size := (Array.getElem?_eq_some_iff.1 hu).1
      have e : (vals ++ Array.replicate (fn.ntmps - vals.size) undef).getD t undef = u := by
        simp [Array.getElem?_append_left hlt, hu]
      show RV _ _ _ _ _ ((vals ++ Array.replicate (fn.ntmps - vals.size) undef).getD t undef)
      rw [e]
      cases v <;> first | exact hr | exact hr.elim
    · intro id o ho; simp [S.startT] at ho
    · intro t v ht
      obtain ⟨u, _, _, hb⟩ := hread t v ht
      exact hb
  have h := h A U
  rw [fS_eq] at h
  refine calls_of_wp hf hb (wp_mono (vc_ok hT hm _ _ _ h w ⟨fun _ => False, 0, fun _ => none, fun _ => False⟩ A _ w ⟨rfl, hgt, fun _ h => h.elim⟩ hstart) fun e a w' ⟨s, ⟨L, F, hr⟩, he⟩ => ?_)
  have key : endF T false fn r s → a.defers = [] ∧ ∃ v, (results fn a.tmps).run P w' = .ok v w' ∧ ∃ (v' : Value) (F : Nat → Prop) (bs : List Nat), Ending.returned v = .returned v' ∧ Below w.heap.size w w' ∧
      (∀ b, F b → b < w'.heap.size ∧ (w.heap.size ≤ b ∨ (false = true ∧ A b))) ∧ OV w' F r v' bs ∧ bs.Nodup ∧ ∀ b ∈ bs, w.heap.size ≤ b ∧ b < w'.heap.size ∧ ¬ F b := fun he => by
    obtain ⟨v, hres, G, bs, h1, h2, h3, h4, h5⟩ := ends_ok hT hr hA (endF_ok he)
    exact ⟨hr.df, v, hres, v, G, bs, rfl, h1, h2, h3, h4, h5⟩
  cases e <;> first | exact key he | exact he.elim

end Mg

/- The abstract state logic, part 34: a result of its own, read as frozen. No condition. -/
namespace Mg
open Go Go.RowKit
set_option linter.unusedVariables false
def MC.fr : MC → MC
  | .own rows => .fz rows
  | c => c
def frV1 : MV → MV
  | .one c => .one c.fr
  | .agg cs => .agg (cs.map MC.fr)
  | v => v
def frV : MV → MV
  | .tup vs => .tup (vs.map frV1)
  | v => frV1 v
theorem OwnB.rf {w : World} {F F' : Nat → Prop} {b s cap : Nat} {rows : List (List MC)} (h : OwnB w F b s cap rows) (hF : ∀ b, F b → F' b) (hb : F' b) :
    RF w F' (.fz rows) (.slice (some ⟨b, 0, none⟩) rows.length cap) := by
  obtain ⟨_, hne, hs, hcap, _, hc⟩ := h
  refine RF.mk hcap fun _ => ⟨b, 0, s, rfl, hb, hs, fun i j r c h1 h2 => ?_⟩
  obtain ⟨u, hu, hr⟩ := hc i r h1 j c h2
  exact ⟨u, by rw [Nat.zero_add]; exact hu, hr.mono (fun _ _ => rfl) hF⟩
theorem OC.fr {w : World} {F F' : Nat → Prop} (hF : ∀ b, F b → F' b) {cs : List MC} {vs : List Value} {bs : List Nat} (h : OC w F cs vs bs) (hb : ∀ b ∈ bs, F' b) : OC w F' (cs.map MC.fr) vs [] := by
  induction h with
  | nil => exact .nil
  | fz h t ih =>
    have e := h.frz
    rename_i c v cs vs bs
    have : c.fr = c := by cases c <;> first | rfl | cases e
    rw [List.map_cons, this]
    exact .fz (h.mono (fun _ _ => rfl) hF) (ih hb)
  | own0 t ih => exact .fz (.nilz _ 0) (ih hb)
  | own h t ih => exact .fz (h.rf hF (hb _ (by simp))) (ih fun b hb' => hb b (by simp [hb']))
theorem OV1.fr {w : World} {F F' : Nat → Prop} (hF : ∀ b, F b → F' b) {x : MV} {v : Value} {bs : List Nat} (h : OV1 w F x v bs) (hb : ∀ b ∈ bs, F' b) : OV1 w F' (frV1 x) v [] := by
  cases x with
  | one c => exact OC.fr hF h hb
  | agg cs => obtain ⟨arr, rfl, h⟩ := h; exact ⟨arr, rfl, h.fr hF hb⟩
  | _ => exact h.elim
theorem OT.fr {w : World} {F F' : Nat → Prop} (hF : ∀ b, F b → F' b) {xs : List MV} {vs : List Value} {bs : List Nat} (h : OT w F xs vs bs) (hb : ∀ b ∈ bs, F' b) : OT w F' (xs.map frV1) vs [] := by
  induction h with
  | nil => exact .nil
  | cons h t ih => exact .cons (b1 := []) (b2 := []) (h.fr hF fun b h1 => hb b (List.mem_append_left _ h1)) (ih fun b h1 => hb b (List.mem_append_right _ h1))
theorem OV.fr {w : World} {F F' : Nat → Prop} (hF : ∀ b, F b → F' b) {x : MV} {v : Value} {bs : List Nat} (h : OV w F x v bs) (hb : ∀ b ∈ bs, F' b) : OV w F' (frV x) v [] := by
  cases x with
  | tup xs => obtain ⟨arr, rfl, h⟩ := h; exact ⟨arr, rfl, h.fr hF hb⟩
  | one c => exact OV1.fr (x := .one c) hF h hb
  | agg cs => exact OV1.fr (x := .agg cs) hF h hb
  | un => exact h.elim
theorem Pure.fr {P : Program} {sh : Bool} {f : Nat} {args : List MV} {r : MV} (h : Pure P sh f args r) : Pure P sh f args (frV r) := by
  refine ⟨h.1, fun w A vals h1 h2 h3 h4 => (h.2 w A vals h1 h2 h3 h4).mono fun e w' ⟨v, F, bs, he, hB, hF, hO, hn, hb⟩ => ?_⟩
  refine ⟨v, fun b => F b ∨ b ∈ bs, [], he, hB, fun b hb' => ?_, hO.fr (fun _ => .inl) (fun _ => .inr), List.nodup_nil, fun b h => by cases h⟩
  rcases hb' with h | h
  · exact hF b h
  · exact ⟨(hb b h).2.1, .inl (hb b h).1⟩
theorem Pure.to {P : Program} {sh : Bool} {f : Nat} {args : List MV} {r r' : MV} (h : Pure P sh f args r) (e : frV r = r') : Pure P sh f args r' := e ▸ h.fr
end Mg
