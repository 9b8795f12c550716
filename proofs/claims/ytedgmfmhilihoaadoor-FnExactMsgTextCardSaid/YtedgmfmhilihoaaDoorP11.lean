/- Parts of the abstract state logic and of the walks, one behind the other: Mg20, Mg22. No condition. -/
import Derived.Test.YtedgmfmhilihoaaDoorP10
/- The abstract state logic, part 20: renaming, loops, what a whole code asks for. No condition. -/
namespace Mg
open Go Go.RowKit
set_option linter.unusedVariables false

variable {P : Program} {T : Tab}

def MC.ren (β : Nat → Nat) : MC → MC
  | .ref i o l => .ref (β i) o l
  | .ptr i r o => .ptr (β i) r o
  | c => c
def MV.ren1 (β : Nat → Nat) : MV → MV
  | .one c => .one (c.ren β)
  | .agg cs => .agg (cs.map (MC.ren β))
  | v => v
def MV.ren (β : Nat → Nat) : MV → MV
  | .tup vs => .tup (vs.map (MV.ren1 β))
  | v => v.ren1 β
def ObR (β : Nat → Nat) : Ob → Ob → Prop
  | .box cs', .box cs => cs = cs'.map (MC.ren β)
  | .arr rows', .arr rows => rows' = rows ∧ ∀ r ∈ rows, ∀ c ∈ r, c.ren β = c
  | _, _ => False

/-- s' is part of s, its names sent into s's. -/
structure SubR (β : Nat → Nat) (s' s : S) : Prop where
  m : s'.m = s.m
  env : ∀ t v, look s'.env t = some v → look s.env t = some (v.ren β) ∧ v.bd s'.n
  st : ∀ id o, look s'.st id = some o → (∃ q, look s.st (β id) = some q ∧ ObR β o q) ∧ id < s'.n ∧ o.bd s'.n
  inj : ∀ i j, (look s'.st i).isSome = true → (look s'.st j).isSome = true → β i = β j → i = j

theorem Rl.ren {w0 : World} {wr : Wr} {A : Nat → Prop} {L : Lay} {F : FF} {s : S} {a : Act} {w : World} (h : Rl w0 wr A L F s a w) {β : Nat → Nat} {s' : S} (hs : SubR β s' s) (hk : ∀ i, i < wr.k → β i = i ∧ i < s'.n) : Rl w0 wr A (fun i => L (β i)) F s' a w := by
  have hsome : ∀ id, (look s'.st id).isSome = true → (look s.st (β id)).isSome = true := fun id hid => by
    obtain ⟨o, ho⟩ := Option.isSome_iff_exists.1 hid
    obtain ⟨⟨q, hq, _⟩, _⟩ := hs.st id o ho
    rw [hq]; rfl
  have hi : ∀ c : MC, ∀ u, RC (look s.st) L w F (c.ren β) u → RC (look s'.st) (fun i => L (β i)) w F c u := fun c u hr => by
    cases c with
    | ref id off len =>
      refine ⟨hr.1, fun rows hrw => ?_⟩
      obtain ⟨⟨q, hq, hob⟩, _⟩ := hs.st id _ hrw
      cases q with
      | box cs => exact hob.elim
      | arr rows2 =>
        obtain ⟨rfl, _⟩ := hob
        exact hr.2 rows hq
    | ptr id row off => exact ⟨hr.1, fun hsm => hr.2 (hsome id hsm)⟩
    | _ => exact hr
  have hr1 : ∀ v : MV, ∀ u, RV1 (look s.st) L w F (v.ren1 β) u → RV1 (look s'.st) (fun i => L (β i)) w F v u := fun v u hr => by
    cases v with
    | un => trivial
    | one c => exact hi c u hr
    | agg cs =>
      obtain ⟨arr, rfl, hsz, hc⟩ := hr
      refine ⟨arr, rfl, by simpa using hsz, fun j c hj => ?_⟩
      obtain ⟨u, hu, hru⟩ := hc j (c.ren β) (by simp [hj])
      exact ⟨u, hu, hi c u hru⟩
    | tup vs => exact hr.elim
  refine ⟨h.os, h.tape, h.output, h.size, h.keep, h.kc, fun i hi => ⟨by rw [(hk i hi).1]; exact (h.pin i hi).1, (hk i hi).2⟩, h.fa, h.fn, h.fsz, ?_, ?_, ?_, h.sz.trans hs.m.symm, ?_, ?_, ?_, h.df⟩
  · intro id o ho
    obtain ⟨⟨q, hq, hob⟩, _⟩ := hs.st id o ho
    have hok := h.ob (β id) q hq
    cases o with
    | box cs' =>
      cases q with
      | arr rows => exact hob.elim
      | box cs =>
        obtain rfl : cs = cs'.map (MC.ren β) := hob
        obtain ⟨b, t, hL, hf, hw⟩ := hok
        exact ⟨b, t, hL, hf, fun j c hj => by
          obtain ⟨u, hu, hru⟩ := hw j (c.ren β) (by simp [hj])
          exact ⟨u, hu, hi c u hru⟩⟩
    | arr rows' =>
      cases q with
      | box cs => exact hob.elim
      | arr rows =>
        obtain ⟨rfl, hfix⟩ := hob
        rcases hok with ⟨h1, h2⟩ | ⟨b, t, hL, hf, hlen, hw⟩
        · exact .inl ⟨h1, h2⟩
        · exact .inr ⟨b, t, hL, hf, hlen, fun i r hr j c hj => by
            obtain ⟨u, hu, hru⟩ := hw i r hr j c hj
            refine ⟨u, hu, hi c u ?_⟩
            rw [hfix r (List.mem_of_getElem? hr) c (List.mem_of_getElem? hj)]
            exact hru⟩
  · exact fun id b t h1 h2 => h.own (β id) b t (hsome id h1) h2
  · exact fun i j b t u h1 h2 h3 h4 => hs.inj i j h1 h2 (h.inj (β i) (β j) b t u (hsome i h1) (hsome j h2) h3 h4)
  · intro t v hv
    have hr := h.env t _ (hs.env t v hv).1
    cases v with
    | tup vs =>
      obtain ⟨arr, he, hsz, hc⟩ := hr
      refine ⟨arr, he, by simpa using hsz, fun j x hj => ?_⟩
      obtain ⟨u, hu, hru⟩ := hc j (x.ren1 β) (by simp [hj])
      exact ⟨u, hu, hr1 x u hru⟩
    | un => trivial
    | one c => exact hi c _ hr
    | agg cs => exact hr1 (.agg cs) _ hr
  · exact fun id o ho => (hs.st id o ho).2
  · exact fun t v hv => (hs.env t v hv).2

theorem W.ren {k : Nat} {c : Code} {s s' : S} {Q : Exit → S → Prop} {β : Nat → Nat} (hs : SubR β s' s) (hp : ∀ i, i < k → β i = i ∧ i < s'.n) (h : W k P c s' Q) : W k P c s Q := fun w0 wr A a w hk ⟨L, F, hr⟩ =>
  h w0 wr A a w hk ⟨_, F, hr.ren hs (hk.1 ▸ hp)⟩

/- The same, reckoned. -/
def eqU : Value → Value → Prop
  | .int k a, .int k' b => k = k' ∧ Side (a = b)
  | .bool a, .bool b => Side (a = b)
  | .string a, .string b => Side (a = b)
  | a, b => Side (a = b)
def eqC : MC → MC → Prop
  | .dead, .dead => True
  | .nil, .nil => True
  | .sc a, .sc b => eqU a b
  | .fz a, .fz b => Side (a = b)
  | .ag a, .ag b => Side (a = b)
  | .own a, .own b => Side (a = b)
  | .fptr a, .fptr b => Side (a = b)
  | .aptr a, .aptr b => Side (a = b)
  | .ref i o l, .ref i' o' l' => i = i' ∧ Side (o = o') ∧ Side (l = l')
  | .ptr i o l, .ptr i' o' l' => i = i' ∧ Side (o = o') ∧ Side (l = l')
  | .tr o B u a, .tr o' B' u' b => (o = o' ∧ B = B' ∧ u = u') ∧ Side (a = b)
  | _, _ => False
def eqL : List MC → List MC → Prop
  | [], [] => True
  | a :: as, b :: bs => eqC a b ∧ eqL as bs
  | _, _ => False
def eqV1 : MV → MV → Prop
  | .un, .un => True
  | .one a, .one b => eqC a b
  | .agg a, .agg b => eqL a b
  | .tup a, .tup b => Side (a = b)
  | _, _ => False
theorem eqU_ok {a b : Value} (h : eqU a b) : a = b := by
  unfold eqU at h
  split at h
  · obtain ⟨rfl, ⟨rfl⟩⟩ := h; rfl
  · obtain ⟨rfl⟩ := h; rfl
  · obtain ⟨rfl⟩ := h; rfl
  · exact h.h
theorem eqC_ok {a b : MC} (h : eqC a b) : a = b := by
  unfold eqC at h
  split at h
  · rfl
  · rfl
  · rw [eqU_ok h]
  · rw [h.h]
  · rw [h.h]
  · rw [h.h]
  · rw [h.h]
  · rw [h.h]
  · rw [h.1, h.2.1.h, h.2.2.h]
  · rw [h.1, h.2.1.h, h.2.2.h]
  · obtain ⟨⟨rfl, rfl, rfl⟩, ⟨rfl⟩⟩ := h; rfl
  · exact h.elim
theorem eqL_ok : ∀ {a b : List MC}, eqL a b → a = b
  | [], [], _ => rfl
  | a :: as, b :: bs, h => by rw [eqC_ok h.1, eqL_ok h.2]
  | [], _ :: _, h => h.elim
  | _ :: _, [], h => h.elim
theorem eqV1_ok {a b : MV} (h : eqV1 a b) : a = b := by
  unfold eqV1 at h
  split at h
  · rfl
  · rw [eqC_ok h]
  · rw [eqL_ok h]
  · rw [h.h]
  · exact h.elim

def bdC (n : Nat) : MC → Prop
  | .ref id _ _ => Chk (Nat.blt id n)
  | .ptr id _ _ => Chk (Nat.blt id n)
  | _ => True
def bdL (n : Nat) : List MC → Prop
  | [] => True
  | c :: cs => bdC n c ∧ bdL n cs
theorem bdC_ok {n : Nat} {c : MC} (h : bdC n c) : c.bd n := by cases c <;> first | trivial | exact (by simpa using (show Chk _ from h).h : _ < n)
theorem bdL_ok {n : Nat} : ∀ {cs : List MC}, bdL n cs → ∀ c ∈ cs, c.bd n
  | [], _, c, hc => by simp at hc
  | x :: xs, h, c, hc => by
    rcases List.mem_cons.1 hc with rfl | hc
    · exact bdC_ok h.1
    · exact bdL_ok h.2 c hc

def MC.flat : MC → Bool
  | .ref _ _ _ => false
  | .ptr _ _ _ => false
  | _ => true
theorem MC.flat_bd {c : MC} {n : Nat} (h : c.flat = true) : c.bd n := by cases c <;> first | trivial | (simp [MC.flat] at h)
theorem MC.frz_flat {c : MC} (h : c.frz = true) : c.flat = true := by cases c <;> first | rfl | (simp [MC.frz] at h)

def envC (bl : List (Nat × Nat)) (n : Nat) (env : List (Nat × MV)) : List (Nat × MV) → Prop
  | [] => True
  | (t, v) :: l => (match look env t with
    | some u => match v with
      | .one c => eqV1 (.one (c.ren fun i => (look bl i).getD i)) u ∧ bdC n c
      | .agg cs => eqV1 (.agg (cs.map (MC.ren fun i => (look bl i).getD i))) u ∧ bdL n cs
      | .un => eqV1 .un u
      | .tup _ => False
    | none => False) ∧ envC bl n env l
def stC (bl : List (Nat × Nat)) (n : Nat) (st : List (Nat × Ob)) : List (Nat × Ob) → Prop
  | [] => True
  | (id, o) :: l => (match look st ((look bl id).getD id) with
    | some q => match o, q with
      | .box cs', .box cs => eqL cs (cs'.map (MC.ren fun i => (look bl i).getD i)) ∧ bdL n cs'
      | .arr rows', .arr rows => Side (rows' = rows) ∧ Side (∀ r ∈ rows', ∀ c ∈ r, c.flat = true)
      | _, _ => False
    | none => False) ∧ Chk (Nat.blt id n) ∧ stC bl n st l
/-- s' is part of s. -/
def subC (k : Nat) (bl : List (Nat × Nat)) (s' s : S) : Prop :=
  Chk ((List.range k).all fun i => Nat.beq ((look bl i).getD i) i && Nat.blt i s'.n) ∧ Chk (Nat.beq s'.m s.m) ∧ envC bl s'.n s.env s'.env ∧ stC bl s'.n s.st s'.st ∧ Chk (s'.st.all fun q => s'.st.all fun r => q.1 == r.1 || (look bl q.1).getD q.1 != (look bl r.1).getD r.1)

theorem look_in {α : Type} : ∀ {l : List (Nat × α)} {t : Nat} {i : α}, look l t = some i → (t, i) ∈ l
  | (k, v) :: l, t, i, h => by
    rw [look_cons] at h
    split at h
    · rename_i e; subst e; cases h; exact List.mem_cons_self
    · exact List.mem_cons_of_mem _ (look_in h)

theorem subC_pin {k : Nat} {bl : List (Nat × Nat)} {s' s : S} (h : subC k bl s' s) : ∀ i, i < k → (look bl i).getD i = i ∧ i < s'.n := fun i hi => by
  obtain ⟨⟨h0⟩, _⟩ := h
  have := List.all_eq_true.1 h0 i (List.mem_range.2 hi)
  simp only [Bool.and_eq_true, Nat.beq_eq, Nat.blt_eq] at this
  exact this
theorem subC_ok {k : Nat} {bl : List (Nat × Nat)} {s' s : S} (h : subC k bl s' s) : SubR (fun i => (look bl i).getD i) s' s := by
  obtain ⟨_, ⟨h1⟩, h2, h3, ⟨h4⟩⟩ := h
  have h1 : s'.m = s.m := Nat.eq_of_beq_eq_true h1
  refine ⟨h1, fun t v hv => ?_, fun id o ho => ?_, fun i j hi hj he => ?_⟩
  · have hm := look_in hv
    clear hv
    generalize s'.env = l at h2 hm
    induction l with
    | nil => simp at hm
    | cons x l ih =>
      obtain ⟨t', v'⟩ := x
      obtain ⟨hx, hl⟩ := h2
      rcases List.mem_cons.1 hm with e | hm
      · obtain ⟨rfl, rfl⟩ := Prod.mk.inj e
        split at hx
        · rename_i u hu
          split at hx
          · exact ⟨by rw [hu, ← eqV1_ok hx.1]; rfl, bdC_ok hx.2⟩
          · exact ⟨by rw [hu, ← eqV1_ok hx.1]; rfl, bdL_ok hx.2⟩
          · exact ⟨by rw [hu, ← eqV1_ok hx]; rfl, trivial⟩
          · exact hx.elim
        · exact hx.elim
      · exact ih hl hm
  · have hm := look_in ho
    clear ho h4
    generalize s'.st = l at h3 hm
    induction l with
    | nil => simp at hm
    | cons x l ih =>
      obtain ⟨t', v'⟩ := x
      obtain ⟨hx, ⟨hlt⟩, hl⟩ := h3
      rcases List.mem_cons.1 hm with e | hm
      · obtain ⟨rfl, rfl⟩ := Prod.mk.inj e
        have hlt : id < s'.n := by simpa using hlt
        split at hx
        · rename_i q hq
          split at hx
          · exact ⟨⟨_, hq, eqL_ok hx.1⟩, hlt, bdL_ok hx.2⟩
          · obtain ⟨⟨rfl⟩, ⟨hf⟩⟩ := hx
            refine ⟨⟨_, hq, rfl, fun r hr c hc => ?_⟩, hlt, fun r hr c hc => MC.flat_bd (hf r hr c hc)⟩
            have := hf r hr c hc
            cases c <;> first | rfl | (simp [MC.flat] at this)
          · exact hx.elim
        · exact hx.elim
      · exact ih hl hm
  · obtain ⟨x, hx⟩ := Option.isSome_iff_exists.1 hi
    obtain ⟨y, hy⟩ := Option.isSome_iff_exists.1 hj
    simp only [List.all_eq_true, Bool.or_eq_true, beq_iff_eq, bne_iff_ne] at h4
    rcases h4 _ (look_in hx) _ (look_in hy) with h | h
    · exact h
    · exact absurd he h

theorem tf {p : Prop} (h : true = false) : p := Bool.noConfusion h
theorem ft {p : Prop} (h : false = true) : p := Bool.noConfusion h
theorem tt {p : Prop} (h : p) (_ : true = true) : p := h
theorem ff {p : Prop} (h : p) (_ : false = false) : p := h
theorem sLe {n m : Nat} (h : Nat.ble n m = true) : Side (n ≤ m) := ⟨Nat.le_of_ble_eq_true h⟩
theorem sLeEq {a b c d : Nat} (h : Nat.ble a b = true) (h2 : c = d) : Side (a ≤ b ∧ c = d) := ⟨Nat.le_of_ble_eq_true h, h2⟩
theorem sAnd {p q : Prop} (h1 : p) (h2 : q) : Side (p ∧ q) := ⟨h1, h2⟩
theorem sRow {n : Int} {rows : List (List MC)} {row : List MC} {k : Nat} (h0 : 0 ≤ n) (h : rows[n.toNat]? = some row) (hl : row.length = k) : Side (0 ≤ n ∧ rows[n.toNat]? = some row ∧ row.length = k) := ⟨h0, h, hl⟩
theorem row_at {α : Type} [Inhabited α] (xs : List α) (f : α → List MC) {i : Nat} (h : i < xs.length) : (xs.map f)[((i : Int)).toNat]? = some (f (xs.getD i default)) := by
  simp [List.getElem?_map, List.getD_eq_getElem?_getD, List.getElem?_eq_getElem h]
theorem wrapi {n : Int} (h1 : -9223372036854775808 ≤ n) (h2 : n ≤ 9223372036854775807) : IntKind.i64.wrap n = n := by
  unfold IntKind.wrap
  simp [IntKind.signed, IntKind.bits]
  omega

/-- An order that a hint gives. -/
def ordH : List MC → List Nat
  | .sc (.int _ n) :: l => n.toNat :: ordH l
  | _ => []
/-- The first region of a piece of code. -/
def fstR : Code → Option Nat
  | .region id _ _ => some id
  | .seq x _ => fstR x
  | .block _ c => fstR c
  | .loop c => fstR c
  | _ => none
/-- Are new hints wanted here? -/
def askR (hs : List (Nat × Hint)) (c : Code) : Bool := match fstR c with
  | some id => (look hs (800000 + id)).isSome
  | none => false
/-- What the code asks for. Loops stay as they are. -/
def vc (k : Nat) (P : Program) (T : Tab) : Code → List (Nat × Hint) → S → (Exit → S → Prop) → Prop
  | .skip, hs, s, Q => Q .normal s
  | .exit id, hs, s, Q => Q (.exit id) s
  | .ret, hs, s, Q => match (look hs 700000).isSome with
    | true => W k P .ret s Q
    | false => Q .ret s
  | .seq x y, hs, s, Q => match askR hs x with
    | true => W k P (.seq x y) s Q
    | false => vc k P T x hs s (thn (fun s' => vc k P T y hs s' Q) Q)
  | .block id c, hs, s, Q => vc k P T c hs s (blk id Q)
  | .cond c x y, hs, s, Q => match evO s c with
    | some (.one (.sc (.bool b))) => (b = true → vc k P T x hs s Q) ∧ (b = false → vc k P T y hs s Q)
    | _ => False
  | .region _ ops false, hs, s, Q => vcOps P T hs ops ops.toList s fun s' => Q .normal s'
  | .region id ops true, hs, s, Q => match hintOf hs (some (940000 + id)) with
    | some (.row cs) => Chk (dchk hs ops ((ordH cs).headD 0)) ∧ vcOps P T hs ops ops.toList s fun s' => Q .normal s'
    | _ => match hintOf hs (some (900000 + id)) with
      | some (.row cs) => match hintOf hs (some (950000 + id)) with
        | some (.row fc) => Chk (gchk hs ops (ordH fc) (ordH cs)) ∧ vcF P T hs ops (ordH fc) (ordH cs) [] s fun s' => Q .normal s'
        | _ => Chk (gchk hs ops [] (ordH cs)) ∧ vcF P T hs ops [] (ordH cs) [] s fun s' => Q .normal s'
      | _ => Chk (dchk hs ops (ops.toList.takeWhile fun o => quiet (hintOf hs o.dst) o).length) ∧ vcOps P T hs ops ops.toList s fun s' => Q .normal s'
  | c, hs, s, Q => W k P c s Q

theorem vc_ok {k : Nat} (hT : TOk P T) (hm : P.follows .mixedOrders = true) : ∀ (c : Code) {hs : List (Nat × Hint)} (s : S) (Q : Exit → S → Prop), vc k P T c hs s Q → W k P c s Q := by
  intro c
  induction c with
  | seq x y hx hy =>
    intro hs s Q h
    simp only [vc] at h
    split at h
    · exact h
    · refine W.seq fun K hK => ?_
      refine (hx s _ h).mono fun e s' h' => ?_
      cases e <;> first | exact hK s' (hy s' Q h') | exact h'
  | block id c hc => intro hs s Q h; exact W.block (hc s _ h)
  | cond c x y hx hy =>
    intro hs s Q h
    simp only [vc] at h
    split at h
    · rename_i b he
      refine W.cond he ?_
      cases b
      · exact hy s Q (h.2 rfl)
      · exact hx s Q (h.1 rfl)
    · exact h.elim
  | region id ops d =>
    intro hs s Q h
    cases d
    · exact W.region (vcOps_ok hT _ _ _ h)
    · simp only [vc] at h
      split at h
      · exact W.drawn hs _ hT hm h.1.h h.2
      · split at h
        · split at h
          · exact W.drawnF hs _ _ hT hm h.1.h h.2
          · exact W.drawnF hs _ _ hT hm h.1.h h.2
        · exact W.drawn hs _ hT hm h.1.h h.2
  | skip => intro hs s Q h; exact W.skip h
  | exit id => intro hs s Q h; exact W.exit h
  | ret =>
    intro hs s Q h
    simp only [vc] at h
    split at h
    · exact h
    · exact W.ret h
  | _ => intro hs s Q h; exact h

/-- On with new hints. -/
theorem W.go {k : Nat} {c : Code} {s : S} {Q : Exit → S → Prop} (hs : List (Nat × Hint)) (hT : TOk P T) (hm : P.follows .mixedOrders = true) (h : vc k P T c hs s Q) : W k P c s Q := vc_ok hT hm c s Q h

/-- A loop whose head's states are a family. -/
theorem W.loopC {k : Nat} {D : Type} (hs : D → List (Nat × Hint)) (hT : TOk P T) (hm : P.follows .mixedOrders = true) {c : Code} {s : S} {Q : Exit → S → Prop} (st : D → S) (μ : D → Nat) (inv : D → Prop) (d0 : D) (bl : List (Nat × Nat)) (h0 : inv d0) (hsub : subC k bl (st d0) s)
    (h : ∀ d, inv d → vc k P T c (hs d) (st d) (thn (fun s' => ∃ (d' : D) (bl : List (Nat × Nat)), μ d' < μ d ∧ inv d' ∧ subC k bl (st d') s') Q)) : W k P (.loop c) s Q := by
  refine W.loop (fun n s' => ∃ d bl, n = μ d ∧ inv d ∧ subC k bl (st d) s') (μ d0) ⟨d0, bl, rfl, h0, hsub⟩ fun n s' ⟨d, bl, hn, hi, hsb⟩ => ?_
  refine W.ren (subC_ok hsb) (subC_pin hsb) ((vc_ok hT hm _ _ _ (h d hi)).mono fun e s'' hq => ?_)
  cases e with
  | normal =>
    obtain ⟨d', bl', h1, h2, h3⟩ := hq
    exact ⟨μ d', hn ▸ h1, d', bl', rfl, h2, h3⟩
  | _ => exact hq

/-- A FUNCTION's CONTRACT out of its reckoning. -/
theorem Pure.vc {sh : Bool} {f : Nat} {fn : Func} {c : Code} {args : List MV} {r : MV} (hs : List (Nat × Hint)) (hT : TOk P T) (hm : P.follows .mixedOrders = true) (hf : P.funcs[f]? = some fn) (hn : (fn.name == "runtime.NumGoroutine") = false) (hb : fn.body = some c) (hl : Nat.ble args.length fn.ntmps = true)
    (h : fS (S.start fn.ntmps args) fun s => vc 0 P T c hs s (endE T sh fn r)) : Pure P sh f args r := by
  rw [fS_eq] at h
  refine Pure.of hT hf hn hb (Nat.le_of_ble_eq_true hl) ((vc_ok hT hm _ _ _ h).mono fun e s h' => ?_)
  cases e <;> first | exact ⟨.inl rfl, endF_ok h'⟩ | exact ⟨.inr rfl, endF_ok h'⟩ | exact h'.elim

end Mg

/- The abstract state logic, part 22: lists that fill up, lists that are compared. No condition. -/
namespace Mg
open Go Go.RowKit
set_option linter.unusedVariables false
set_option linter.unusedSectionVars false

section
variable {α : Type} [Inhabited α]

/-- A made list, filled so far. -/
def part (c : α → List MC) (z : List MC) (xs : List α) (i : Nat) : List (List MC) := (xs.take i).map c ++ List.replicate (xs.length - i) z

theorem getD_get {xs : List α} {i : Nat} (h : i < xs.length) : xs.getD i default = xs[i] := by
  simp [List.getD_eq_getElem?_getD, List.getElem?_eq_getElem h]
theorem part_len {c : α → List MC} {z : List MC} {xs : List α} {i : Nat} (h : i ≤ xs.length) : (part c z xs i).length = xs.length := by
  simp [part]; omega
theorem part_zero {c : α → List MC} {z : List MC} {xs : List α} : part c z xs 0 = List.replicate xs.length z := by simp [part]
theorem part_all {c : α → List MC} {z : List MC} {xs : List α} {i : Nat} (h : xs.length ≤ i) : part c z xs i = xs.map c := by
  have : xs.length - i = 0 := by omega
  simp [part, this, List.take_of_length_le h]
theorem part_get {c : α → List MC} {z : List MC} {xs : List α} {i : Nat} (h : i < xs.length) : (part c z xs i).getD i [] = z := by
  have h1 : ((xs.take i).map c).length = i := by simp; omega
  unfold part
  rw [List.getD_eq_getElem?_getD, List.getElem?_append_right (by omega), h1, Nat.sub_self, List.getElem?_replicate, if_pos (by omega)]
  rfl
theorem part_set {c : α → List MC} {z : List MC} {xs : List α} {i : Nat} (h : i < xs.length) : (part c z xs i).set i (c (xs.getD i default)) = part c z xs (i + 1) := by
  have h1 : ((xs.take i).map c).length = i := by simp; omega
  unfold part
  rw [List.set_append_right _ _ (by omega), h1, Nat.sub_self]
  obtain ⟨m, hm⟩ : ∃ m, xs.length - i = m + 1 := ⟨xs.length - i - 1, by omega⟩
  have hm' : xs.length - (i + 1) = m := by omega
  rw [hm, hm', List.replicate_succ, List.set_cons_zero, List.take_succ_eq_append_getElem h, List.map_append, getD_get h]
  simp
theorem part_flat {c : α → List MC} {z : List MC} {xs : List α} {i : Nat} (hc : ∀ x, (c x).all MC.flat = true) (hz : z.all MC.flat = true) : ∀ r ∈ part c z xs i, ∀ x ∈ r, x.flat = true := fun r hr x hx => by
  unfold part at hr
  rcases List.mem_append.1 hr with h | h
  · obtain ⟨y, _, rfl⟩ := List.mem_map.1 h
    exact List.all_eq_true.1 (hc y) x hx
  · rw [(List.mem_replicate.1 h).2] at hx
    exact List.all_eq_true.1 hz x hx
theorem map_frz {c : α → List MC} {xs : List α} (hc : ∀ x, (c x).all MC.frz = true) : ∀ r ∈ xs.map c, ∀ x ∈ r, x.frz = true := fun r hr x hx => by
  obtain ⟨y, _, rfl⟩ := List.mem_map.1 hr
  exact List.all_eq_true.1 (hc y) x hx

theorem eq_upto {xs ys : List α} {i : Nat} (hl : xs.length = ys.length) (hi : i < xs.length) (hp : xs.take i = ys.take i) (he : xs.getD i default = ys.getD i default) : xs.take (i + 1) = ys.take (i + 1) := by
  have e : xs[i] = ys[i]'(by omega) := by rwa [getD_get hi, getD_get (by omega)] at he
  rw [List.take_succ_eq_append_getElem hi, List.take_succ_eq_append_getElem (by omega), hp, e]
theorem eq_all {xs ys : List α} {i : Nat} (hl : xs.length = ys.length) (hi : xs.length ≤ i) (hp : xs.take i = ys.take i) : xs = ys := by
  rwa [List.take_of_length_le hi, List.take_of_length_le (by omega)] at hp

/- The steps of a loop that fills a made list. -/
theorem sPart0 {c : α → List MC} {z : List MC} {xs : List α} {n : Nat} (h : n = xs.length) : Side (part c z xs 0 = List.replicate n z) := ⟨by rw [part_zero, h]⟩
theorem sFlat {c : α → List MC} {z : List MC} {xs : List α} {i : Nat} (hc : ∀ x, (c x).all MC.flat = true) (hz : z.all MC.flat = true) : Side (∀ r ∈ part c z xs i, ∀ x ∈ r, x.flat = true) := ⟨part_flat hc hz⟩
theorem sIdx {c : α → List MC} {z : List MC} {xs : List α} {i n k : Nat} (h : i < xs.length) (hn : n = xs.length) (hz : z.length = k) :
    Side ((0 ≤ (i : Int) ∧ (i : Int) < (n : Int)) ∧ 0 + ((i : Int)).toNat < (part c z xs i).length ∧ ((part c z xs i).getD (0 + ((i : Int)).toNat) []).length = k) := by
  refine ⟨⟨by omega, by omega⟩, ?_, ?_⟩
  · rw [part_len (by omega)]; simp; omega
  · simp only [Int.toNat_natCast, Nat.zero_add, part_get h, hz]
theorem sPut {c : α → List MC} {z cs : List MC} {xs : List α} {i k : Nat} (h : i < xs.length) (hz : Nat.ble cs.length z.length = true) (hk : cs.length = k) :
    Side ((0 + ((i : Int)).toNat < (part c z xs i).length ∧ 0 + cs.length ≤ ((part c z xs i).getD (0 + ((i : Int)).toNat) []).length) ∧ cs.length = k) := by
  refine ⟨⟨?_, ?_⟩, hk⟩
  · rw [part_len (by omega)]; simp; omega
  · simp only [Int.toNat_natCast, Nat.zero_add, part_get h]; exact Nat.le_of_ble_eq_true hz
theorem sPartS {c : α → List MC} {z cs : List MC} {xs : List α} {i : Nat} (h : i < xs.length) (hp : putAt z 0 cs = c (xs.getD i default)) :
    Side (part c z xs (i + 1) = (part c z xs i).set (0 + ((i : Int)).toNat) (putAt ((part c z xs i).getD (0 + ((i : Int)).toNat) []) 0 cs)) := by
  refine ⟨?_⟩
  simp only [Int.toNat_natCast, Nat.zero_add, part_get h, hp, part_set h]
theorem part_end {c : α → List MC} {z : List MC} {xs : List α} {i n : Nat} (h : xs.length ≤ i) (hn : n = xs.length) : ((part c z xs i).drop 0).take n = xs.map c := by
  rw [part_all h, List.drop_zero, List.take_of_length_le (by simp [hn])]
end

theorem wrap_succ {i n : Nat} (h : i < n) (hn : n ≤ 9223372036854775807) : ((i + 1 : Nat) : Int) = IntKind.i64.wrap ((i : Int) + 1) := by
  rw [wrapi] <;> omega
theorem sAll {T : Tab} {l : List (Nat × Nat)} (h : (l.all fun g => (T g.2).isSome) = true) : Side (True ∧ ∀ g ∈ l, (T g.2).isSome = true) :=
  ⟨trivial, fun g hg => List.all_eq_true.1 h g hg⟩
theorem sBld {T : Tab} {a : Prop} {l : List (Nat × Nat)} (h1 : a) (h : (l.all fun g => (T g.2).isSome) = true) : Side (a ∧ ∀ g ∈ l, (T g.2).isSome = true) :=
  ⟨h1, fun g hg => List.all_eq_true.1 h g hg⟩
theorem sBS {a : Prop} {sz k m n : Nat} {cs : List MC} (h1 : a) (h2 : Nat.blt 0 sz = true) (h3 : Nat.ble (k * sz) 16777216 = true) (h4 : cs.length = n) (h5 : cs.all MC.frz = true) : Side (a ∧ (0 < sz ∧ k * sz ≤ 16777216) ∧ cs.length = n ∧ ∀ x ∈ cs, x.bd m) :=
  ⟨h1, ⟨Nat.lt_of_lt_of_le (Nat.lt_of_lt_of_le (Nat.zero_lt_one) (Nat.le_of_ble_eq_true h2)) (Nat.le_refl _), Nat.le_of_ble_eq_true h3⟩, h4, fun x hx => MC.bd_frz (List.all_eq_true.1 h5 x hx)⟩
theorem sBSF {a : Prop} {sz k n : Nat} {cs : List MC} (h1 : a) (h2 : Nat.blt 0 sz = true) (h3 : Nat.ble (k * sz) 16777216 = true) (h4 : cs.length = n) (h5 : (cs.all fun x => x.nf.frz) = true) : Side (a ∧ (0 < sz ∧ k * sz ≤ 16777216) ∧ cs.length = n ∧ ∀ x ∈ cs, x.nf.frz = true) :=
  ⟨h1, ⟨Nat.lt_of_lt_of_le (Nat.lt_of_lt_of_le (Nat.zero_lt_one) (Nat.le_of_ble_eq_true h2)) (Nat.le_refl _), Nat.le_of_ble_eq_true h3⟩, h4, fun x hx => List.all_eq_true.1 h5 x hx⟩
theorem sF1 {rows : List (List MC)} (h : (rows.all fun r => r.all MC.frz) = true) : Side (AllF rows ∧ True) :=
  ⟨fun r hr c hc => List.all_eq_true.1 (List.all_eq_true.1 h r hr) c hc, trivial⟩
end Mg
