/- Parts of the abstract state logic and of the walks, one behind the other: M1, TX7, TX8, TXH, TX9, TXI. No condition. -/
import Derived.Test.YtedgmfmhilihoaaDoorP15
import Derived.Test.YtedgmfmhilihoaaDoorP17
import Derived.Test.YtedgmfmhilihoaaDoorP12
/- Messages that are right. No condition. -/
namespace Mg
open Go Go.RowKit
set_option maxRecDepth 100000
set_option linter.unusedVariables false
set_option linter.unusedSimpArgs false
attribute [local irreducible] W Pure
theorem c_l7None (e : Entry) (he : e.ok lim) : Pure PP false 50 [.agg e.cells] (ob (decide (e = zeroE false))) := by
  obtain ⟨n, ⟨q1, q2⟩, r⟩ := e
  refine Pure.vc [(16, .res (ob (decide (r = zeroRun))))] TTok hmo Go.Proofs.Tryd.func50 (by kernel_rfl) rfl (by kernel_rfl) ?_
  repeat' (first | refine And.intro ?_ ?_ | exact tf | exact ft | refine tt ?_ | refine ff ?_ | exact ⟨trivial⟩ | exact sAll rfl | exact sF1 rfl | exact sBld (by repeat' (first | exact trivial | rfl | exact Nat.le_of_ble_eq_true rfl | refine And.intro ?_ ?_)) rfl | exact sBS (by repeat' (first | exact trivial | rfl | exact Nat.le_of_ble_eq_true rfl | refine And.intro ?_ ?_)) rfl rfl rfl rfl | exact sBSF (by repeat' (first | exact trivial | rfl | exact Nat.le_of_ble_eq_true rfl | refine And.intro ?_ ?_)) rfl rfl rfl rfl | exact sLe rfl | exact Chk.mk (by kernel_rfl) | exact ⟨Chk.mk (by kernel_rfl)⟩ | exact sLeEq rfl rfl | exact sAnd (by repeat' constructor) (c_spec_ExecSame _ zeroRun he zeroRun_ok) | refine fun h => ?_)
  all_goals (refine Side.mk ?_; simp_all [zeroE])
  all_goals repeat' (first | rfl | refine And.intro ?_ ?_)
theorem wsum {a : Int} {n : Nat} (h : inr a 0 40 = true) (hn : n ≤ 1048576) : IntKind.i64.wrap (a + n) = a + n := by
  simp only [inr, Bool.and_eq_true, decide_eq_true_eq] at h
  rw [wrapi] <;> omega
/-- As the one walk has it. -/
def msgOkS (k f t b s : Int) (e : Entry) (vs : List Vote) : Bool :=
  if (decide (f < 0) || decide (f ≥ 3) || decide (t < 0) || decide (t ≥ 3) || f == t || decide (s < 0) || decide (s > 40) || ((k != 2) && decide (((vs.map Vote.cells).length : Int) > 0))) = true then false else
   if (k == 1) = true then inr b 1 3000 && decide (e = zeroE false) else
   if (k == 2) = true then inr b 1 3000 && decide (e = zeroE false) && votesOk vs && decide (IntKind.i64.wrap (s + (vs.map Vote.cells).length) ≤ 40) else
   if (k == 3) = true then inr b 1 3000 && (entryOk e && decide (s < 40)) else
   if (k == 4) = true then inr b 1 3000 && decide (e = zeroE false) else
   if (k == 5) = true then b == 0 && (entryOk e && decide (s < 40)) else
   if (k == 6) = true then inr b 1 3000 && decide (e = zeroE false) && s == 0 else
   if (k == 7) = true then b == 0 && s == 0 && entryOk e && !e.none else
   if (k == 8) = true then b == 0 && decide (e = zeroE false) else false
set_option maxHeartbeats 4000000 in
theorem c_spec_MsgOk (m : Msg) (hm : m.ok lim) : Pure PP false 21 [.agg m.cells] (ob (msgOkS m.kind m.src m.dst m.bal m.slot m.e m.votes)) := by
  obtain ⟨k, f, t, b, s, ⟨n, q, r⟩, vs⟩ := m
  have hl : vs.length ≤ 1048576 := hm.2.1
  refine Pure.vc [(53, .res (ob (decide (Entry.mk n q r = zeroE false)))), (56, .res (ob (entryOk ⟨n, q, r⟩))), (68, .res (ob (inr b 1 3000))), (76, .res (ob (inr b 1 3000))), (83, .res (ob (votesOk vs))), (98, .res (ob (inr b 1 3000))), (106, .res (ob (inr b 1 3000))), (122, .res (ob (inr b 1 3000))), (144, .res (ob (entryOk ⟨n, q, r⟩)))] TTok hmo Go.Proofs.Tryd.func21 (by kernel_rfl) rfl (by kernel_rfl) ?_
  repeat' (first | refine And.intro ?_ ?_ | exact tf | exact ft | refine tt ?_ | refine ff ?_ | exact ⟨trivial⟩ | exact sAll rfl | exact sF1 rfl | exact sBld (by repeat' (first | exact trivial | rfl | exact Nat.le_of_ble_eq_true rfl | refine And.intro ?_ ?_)) rfl | exact sBS (by repeat' (first | exact trivial | rfl | exact Nat.le_of_ble_eq_true rfl | refine And.intro ?_ ?_)) rfl rfl rfl rfl | exact sBSF (by repeat' (first | exact trivial | rfl | exact Nat.le_of_ble_eq_true rfl | refine And.intro ?_ ?_)) rfl rfl rfl rfl | exact sLe rfl | exact Chk.mk (by kernel_rfl) | exact ⟨Chk.mk (by kernel_rfl)⟩ | exact sLeEq rfl rfl | exact sAnd (by repeat' constructor) (c_l7None ⟨n, q, r⟩ hm.1) | exact sAnd (by repeat' constructor) (c_spec_CertEntry ⟨n, q, r⟩ hm.1) | exact sAnd (by repeat' constructor) (c_l6Bal _) | exact sAnd (by repeat' constructor) (c_l6Votes _ (Nat.le_trans hm.2.1 (by decide)) hm.2.2) | refine fun h => ?_)
  all_goals (refine Side.mk ?_)
  all_goals try dsimp only at *
  all_goals try (simp only [msgOkS, *, Bool.or_false, Bool.false_or, Bool.true_and, Bool.and_true, Bool.false_and, Bool.and_false, Bool.or_true, Bool.true_or, if_true, if_false, Bool.false_eq_true, reduceIte, and_self, Bool.not_true, Bool.not_false]; done)
  all_goals try (simp_all [msgOkS]; done)
theorem rng2 {n : Int} : (decide (n < 0) || decide (n ≥ 3)) = !inr n 0 2 := by
  unfold inr
  by_cases h1 : n < 0 <;> by_cases h2 : n ≥ 3 <;> simp [h1, h2] <;> omega
theorem rng40 {n : Int} : (decide (n < 0) || decide (n > 40)) = !inr n 0 40 := by
  unfold inr
  by_cases h1 : n < 0 <;> by_cases h2 : n > 40 <;> simp [h1, h2] <;> omega
/-- As the other walk has it. -/
def msgOkI (k f t b s : Int) (e : Entry) (vs : List Vote) : Bool :=
  if (!inr f 0 2 || !inr t 0 2 || f == t || !inr s 0 40) = true then false else
   if (k == 1) = true then inr b 1 3000 && decide (e = zeroE false) && ((vs.map Vote.cells).length : Int) == 0 else
   if (k == 4) = true then inr b 1 3000 && decide (e = zeroE false) && ((vs.map Vote.cells).length : Int) == 0 else
   if (k == 2) = true then inr b 1 3000 && decide (e = zeroE false) && votesOk vs && decide (IntKind.i64.wrap (s + (vs.map Vote.cells).length) ≤ 40) else
   if (k == 3) = true then inr b 1 3000 && decide (s < 40) && entryOk e && ((vs.map Vote.cells).length : Int) == 0 else
   if (k == 5) = true then b == 0 && decide (s < 40) && entryOk e && ((vs.map Vote.cells).length : Int) == 0 else
   if (k == 6) = true then inr b 1 3000 && s == 0 && decide (e = zeroE false) && ((vs.map Vote.cells).length : Int) == 0 else
   if (k == 7) = true then b == 0 && s == 0 && entryOk e && !e.none && ((vs.map Vote.cells).length : Int) == 0 else
   if (k == 8) = true then b == 0 && decide (e = zeroE false) && ((vs.map Vote.cells).length : Int) == 0 else false
theorem msgOk_eq (k f t b s : Int) (e : Entry) (vs : List Vote) : msgOkI k f t b s e vs = msgOkS k f t b s e vs := by
  have hS : (decide (f < 0) || decide (f ≥ 3) || decide (t < 0) || decide (t ≥ 3) || f == t || decide (s < 0) || decide (s > 40) || ((k != 2) && decide (((vs.map Vote.cells).length : Int) > 0))) = ((!inr f 0 2 || !inr t 0 2 || f == t || !inr s 0 40) || ((k != 2) && decide (((vs.map Vote.cells).length : Int) > 0))) := by
    rw [← rng2, ← rng2, ← rng40]
    simp only [Bool.or_assoc]
  unfold msgOkI msgOkS
  rw [hS]
  generalize (!inr f 0 2 || !inr t 0 2 || f == t || !inr s 0 40) = A
  cases A
  · generalize inr b 1 3000 = B
    generalize entryOk e = C
    generalize decide (e = zeroE false) = D
    generalize decide (s < 40) = E
    generalize (s == 0) = G
    generalize (b == 0) = H
    generalize e.none = I
    have hl : (((vs.map Vote.cells).length : Int) == 0) = !decide (((vs.map Vote.cells).length : Int) > 0) := by
      by_cases h : (((vs.map Vote.cells).length : Int)) = 0
      · rw [h]; rfl
      · have : (((vs.map Vote.cells).length : Int)) > 0 := by omega
        simp only [decide_eq_true this, Bool.not_true, beq_eq_false_iff_ne]; exact h
    rw [hl]
    generalize decide (((vs.map Vote.cells).length : Int) > 0) = N
    by_cases h1 : k = 1 <;> by_cases h2 : k = 2 <;> by_cases h3 : k = 3 <;> by_cases h4 : k = 4 <;> by_cases h5 : k = 5 <;> by_cases h6 : k = 6 <;> by_cases h7 : k = 7 <;> by_cases h8 : k = 8
    all_goals try (exfalso; omega)
    all_goals cases N <;> simp [h1, h2, h3, h4, h5, h6, h7, h8]
    all_goals (cases B <;> cases C <;> cases D <;> cases E <;> cases H <;> cases G <;> rfl)
  · simp
set_option maxHeartbeats 4000000 in
theorem c_impl_MsgOk (m : Msg) (hm : m.ok lim) : Pure PP false 20 [.agg m.cells] (ob (msgOkI m.kind m.src m.dst m.bal m.slot m.e m.votes)) := by
  obtain ⟨k, f, t, b, s, ⟨n, q, r⟩, vs⟩ := m
  have hl : vs.length ≤ 1048576 := hm.2.1
  refine Pure.vc [(8, .res (ob (inr f 0 2))), (13, .res (ob (inr t 0 2))), (26, .res (ob (inr s 0 40))), (31, .res (ob (inr b 1 3000))), (35, .res (ob (decide (Entry.mk n q r = zeroE false)))), (61, .res (ob (votesOk vs))), (83, .res (ob (entryOk ⟨n, q, r⟩))), (101, .res (ob (entryOk ⟨n, q, r⟩))), (133, .res (ob (entryOk ⟨n, q, r⟩)))] TTok hmo Go.Proofs.Tryd.func20 (by kernel_rfl) rfl (by kernel_rfl) ?_
  repeat' (first | refine And.intro ?_ ?_ | exact tf | exact ft | refine tt ?_ | refine ff ?_ | exact ⟨trivial⟩ | exact sAll rfl | exact sF1 rfl | exact sBld (by repeat' (first | exact trivial | rfl | exact Nat.le_of_ble_eq_true rfl | refine And.intro ?_ ?_)) rfl | exact sBS (by repeat' (first | exact trivial | rfl | exact Nat.le_of_ble_eq_true rfl | refine And.intro ?_ ?_)) rfl rfl rfl rfl | exact sBSF (by repeat' (first | exact trivial | rfl | exact Nat.le_of_ble_eq_true rfl | refine And.intro ?_ ?_)) rfl rfl rfl rfl | exact sLe rfl | exact Chk.mk (by kernel_rfl) | exact ⟨Chk.mk (by kernel_rfl)⟩ | exact sLeEq rfl rfl | exact sAnd (by repeat' constructor) (c_impl_in _ _ _) | exact sAnd (by repeat' constructor) (c_impl_CertLike ⟨n, q, r⟩ (zeroE false) hm.1 zeroRun_ok) | exact sAnd (by repeat' constructor) (c_impl_CertEntry ⟨n, q, r⟩ hm.1) | exact sAnd (by repeat' constructor) (c_impl_votesOk _ (Nat.le_trans hm.2.1 (by decide)) hm.2.2) | refine fun h => ?_)
  all_goals (refine Side.mk ?_)
  all_goals try dsimp only at *
  all_goals simp_all [msgOkI]
  all_goals (intro hlt; exfalso; omega)
end Mg

/- Messages' texts, plain. No condition. -/
namespace Mg
open Go Go.RowKit Go.Lib
set_option maxRecDepth 100000
set_option linter.unusedVariables false
set_option linter.unusedSimpArgs false
attribute [local irreducible] W Pure
theorem I6.of {n lo hi : Int} (h : inr n lo hi = true) (h1 : -9223372036854775808 ≤ lo) (h2 : hi ≤ 9223372036854775807) : I6 n := by
  simp only [inr, Bool.and_eq_true, decide_eq_true_eq] at h
  exact ⟨by omega, by omega⟩
theorem listOk_int {lo : Int} (h0 : -9223372036854775808 ≤ lo) {xs : List Two} (h : listOk lo xs = true) : ∀ x ∈ xs, x.int := fun x hx => by
  obtain ⟨i, hi, rfl⟩ := List.getElem_of_mem hx
  simp only [listOk, List.all_eq_true, List.mem_range] at h
  have := h i hi
  simp only [elemOk, Bool.and_eq_true] at this
  rw [getD_get hi] at this
  exact ⟨I6.of this.1.1 (by decide) (by decide), I6.of this.1.2 h0 (by decide)⟩
theorem I60 : I6 0 := ⟨by decide, by decide⟩
theorem zeroE_int (b : Bool) : (zeroE b).int := ⟨⟨I60, I60⟩, fun x hx => by simp [zeroE, zeroRun] at hx, fun x hx => by simp [zeroE, zeroRun] at hx, I60, I60⟩
theorem entryOk_int {e : Entry} (h : entryOk e = true) : e.int := by
  unfold entryOk at h
  split at h
  · rw [of_decide_eq_true h]; exact zeroE_int true
  · simp only [Bool.and_eq_true, reqOk, execOk, headOk] at h
    obtain ⟨⟨⟨q1, q2⟩, ⟨⟨⟨⟨r1, r2⟩, _⟩, _⟩, l1⟩, l2⟩, _⟩ := h
    exact ⟨⟨I6.of q1 (by decide) (by decide), I6.of q2 (by decide) (by decide)⟩, listOk_int (by decide) l1, listOk_int (by decide) l2, I6.of r2 (by decide) (by decide), I6.of r1 (by decide) (by decide)⟩
def words : List (List UInt8) := [[], [112, 114, 101, 112, 97, 114, 101], [112, 114, 111, 109, 105, 115, 101], [97, 99, 99, 101, 112, 116], [97, 99, 99, 101, 112, 116, 101, 100], [99, 104, 111, 115, 101, 110], [114, 101, 102, 117, 115, 101], [97, 115, 107], [110, 101, 101, 100]]
def wordC (w : List UInt8) : List MC := [.sc (.string (str w))]
def word (k : Int) : List UInt8 := words.getD k.toNat []
def mOk (m : Msg) : Bool := msgOkS m.kind m.src m.dst m.bal m.slot m.e m.votes
def msgHead (m : Msg) : List UInt8 := word m.kind ++ [32] ++ itoa m.src ++ [32] ++ itoa m.dst ++ [32] ++ itoa m.bal ++ [32] ++ itoa m.slot
def voteText (v : Vote) : List UInt8 := [32] ++ itoa v.bal ++ (if v.bal = 0 then [] else entText v.e)
def votesText (vs : List Vote) : List UInt8 := vs.flatMap voteText
def msgTail (m : Msg) : List UInt8 := if m.kind = 3 ∨ m.kind = 5 ∨ m.kind = 7 then [32] ++ entText m.e else if m.kind = 2 then votesText m.votes else []
def msgText (m : Msg) : List UInt8 := if mOk m = true then msgHead m ++ msgTail m else []
structure MsgF (m : Msg) : Prop where
  kind : 1 ≤ m.kind ∧ m.kind ≤ 8
  src : 0 ≤ m.src ∧ m.src ≤ 2
  dst : 0 ≤ m.dst ∧ m.dst ≤ 2
  ne : m.src ≠ m.dst
  bal : 0 ≤ m.bal ∧ m.bal ≤ 3000
  slot : 0 ≤ m.slot ∧ m.slot ≤ 40
  ent : (m.kind = 3 ∨ m.kind = 5 ∨ m.kind = 7) → entryOk m.e = true
  noent : ¬ (m.kind = 3 ∨ m.kind = 5 ∨ m.kind = 7) → m.e = zeroE false
  vs : m.kind = 2 → votesOk m.votes = true
  novs : m.kind ≠ 2 → m.votes = []
theorem mOk_f {m : Msg} (h : mOk m = true) : MsgF m := by
  obtain ⟨k, f, t, b, s, e, vs⟩ := m
  unfold mOk msgOkS at h
  dsimp only at h
  split at h
  · cases h
  rename_i hc
  simp only [Bool.or_eq_true, decide_eq_true_eq, beq_iff_eq, Bool.and_eq_true, bne_iff_ne, ne_eq, List.length_map, not_or, not_and] at hc
  obtain ⟨⟨⟨⟨⟨⟨⟨c1, c2⟩, c3⟩, c4⟩, c5⟩, c6⟩, c7⟩, c8⟩ := hc
  have hvs : k ≠ 2 → vs = [] := fun hk => List.eq_nil_of_length_eq_zero (by have := c8 hk; omega)
  have fin : (1 ≤ k ∧ k ≤ 8) → (0 ≤ b ∧ b ≤ 3000) → ((k = 3 ∨ k = 5 ∨ k = 7) → entryOk e = true) → (¬ (k = 3 ∨ k = 5 ∨ k = 7) → e = zeroE false) → (k = 2 → votesOk vs = true) → MsgF ⟨k, f, t, b, s, e, vs⟩ :=
    fun a1 a2 a3 a4 a5 => ⟨a1, ⟨by dsimp only; omega, by dsimp only; omega⟩, ⟨by dsimp only; omega, by dsimp only; omega⟩, c5, a2, ⟨by dsimp only; omega, by dsimp only; omega⟩, a3, a4, a5, hvs⟩
  repeat' split at h
  all_goals try (cases h; done)
  all_goals simp only [Bool.and_eq_true, decide_eq_true_eq, beq_iff_eq, inr, Bool.not_eq_true'] at *
  all_goals first
    | exact fin (by omega) (by omega) (fun _ => by simp_all) (fun hk => by first | simp_all | omega) (fun hk => by first | simp_all | omega)
    | exact fin (by omega) (by omega) (fun hk => by first | simp_all | omega) (fun hk => by first | (exfalso; apply hk; omega) | simp_all) (fun hk => by first | simp_all | omega)
    | skip
theorem word_at {k : Int} (h : 1 ≤ k ∧ k ≤ 8) : (words.map wordC)[k.toNat]? = some (wordC (word k)) := by
  obtain ⟨n, rfl⟩ := Int.eq_ofNat_of_zero_le (show 0 ≤ k by omega)
  have hn : n < 9 := by omega
  unfold word
  rw [Int.toNat_natCast]
  match n, hn with
  | 0, _ | 1, _ | 2, _ | 3, _ | 4, _ | 5, _ | 6, _ | 7, _ | 8, _ => rfl
theorem word_len (k : Int) : (word k).length ≤ 8 := by
  unfold word
  by_cases h : k.toNat < words.length
  · rw [List.getD_eq_getElem?_getD, List.getElem?_eq_getElem h]
    have : ∀ w ∈ words, w.length ≤ 8 := by decide
    exact this _ (List.getElem_mem h)
  · rw [List.getD_eq_getElem?_getD, List.getElem?_eq_none (by omega)]; decide
theorem ent_len {e : Entry} (h : e.int) (ho : e.ok lim) : (entText e).length ≤ 100000000 := by
  have h1 : e.run.reads.length ≤ 1048576 := ho.1
  have h2 : e.run.puts.length ≤ 1048576 := ho.2
  have l1 := h.q.1.len
  have l2 := h.q.2.len
  have l3 := h.c.len
  have l4 := h.d.len
  have g1 := twos_len (a := 63) (b := 47) h.r
  have g2 := twos_len (a := 33) (b := 61) h.p
  cases hn : e.none with
  | true => simp [entText, hn]
  | false =>
    rw [ent_eq hn]
    simp only [List.length_append, List.length_cons, List.length_nil, entHead]
    omega
end Mg

/- Messages' texts, walked. No condition. -/
namespace Mg
open Go Go.RowKit Go.Lib
set_option maxRecDepth 100000
set_option linter.unusedVariables false
set_option linter.unusedSimpArgs false
attribute [local irreducible] W Pure
theorem nF {b : Bool} (h : (!b) = false) : ¬ b = false := by cases b <;> simp_all
theorem nT {b : Bool} (h : (!b) = true) : ¬ b = true := by cases b <;> simp_all
theorem c_l7Words : Pure PP false 54 [] (.one (.fz (words.map wordC))) := by
  refine Pure.vc [(1, .row [])] TTok hmo Go.Proofs.Tryd.func54 (by kernel_rfl) rfl (by kernel_rfl) ?_
  repeat' (first | refine And.intro ?_ ?_ | exact tf | exact ft | refine tt ?_ | refine ff ?_ | exact ⟨trivial⟩ | exact sAll rfl | exact sF1 rfl | exact sBld (by repeat' (first | exact trivial | rfl | exact Nat.le_of_ble_eq_true rfl | refine And.intro ?_ ?_)) rfl | exact sBS (by repeat' (first | exact trivial | rfl | exact Nat.le_of_ble_eq_true rfl | refine And.intro ?_ ?_)) rfl rfl rfl rfl | exact sBSF (by repeat' (first | exact trivial | rfl | exact Nat.le_of_ble_eq_true rfl | refine And.intro ?_ ?_)) rfl rfl rfl rfl | exact sLe rfl | exact Chk.mk (by kernel_rfl) | exact ⟨Chk.mk (by kernel_rfl)⟩ | exact sLeEq rfl rfl | refine fun h => ?_)
  all_goals (refine ⟨?_⟩; repeat' (first | exact trivial | rfl | refine And.intro ?_ ?_))
theorem text_no {m : Msg} (h : mOk m = false) : msgText m = [] := by simp [msgText, h]
theorem text_yes {m : Msg} (h : mOk m = true) : msgText m = msgHead m ++ msgTail m := by simp [msgText, h]
theorem votesText_step {vs : List Vote} {i : Nat} (h : i < vs.length) : votesText (vs.take (i + 1)) = votesText (vs.take i) ++ voteText (vs.getD i default) := by
  unfold votesText
  rw [List.take_succ_eq_append_getElem h, List.flatMap_append, getD_get h]
  simp
theorem votesText_len {vs : List Vote} (h : ∀ v ∈ vs, (voteText v).length ≤ 100000030) : (votesText vs).length ≤ 100000030 * vs.length := by
  induction vs with
  | nil => exact Nat.le_refl _
  | cons v vs ih =>
    have h1 := h v List.mem_cons_self
    have h2 := ih fun x hx => h x (List.mem_cons_of_mem _ hx)
    simp only [votesText, List.flatMap_cons, List.length_append, List.length_cons] at *
    omega
structure VoteF (v : Vote) : Prop where
  bal : 0 ≤ v.bal ∧ v.bal ≤ 3000
  e : v.bal ≠ 0 → entryOk v.e = true
  z : v.bal = 0 → v.e = zeroE false
theorem voteOk_f {v : Vote} (h : voteOk v = true) : VoteF v := by
  unfold voteOk at h
  split at h
  · rename_i hb
    exact ⟨by omega, fun hn => absurd hb hn, fun _ => of_decide_eq_true h⟩
  · rename_i hb
    simp only [inr, Bool.and_eq_true, decide_eq_true_eq] at h
    exact ⟨by omega, fun _ => h.2, fun hz => absurd hz hb⟩
theorem vote_len {v : Vote} (h : VoteF v) (ho : v.ok lim) : (voteText v).length ≤ 100000030 := by
  have h1 := itoa_len (n := v.bal) (by have := h.bal; omega) (by have := h.bal; omega)
  unfold voteText
  split
  · simp; omega
  · rename_i hb
    have := ent_len (entryOk_int (h.e hb)) ho
    simp only [List.length_append, List.length_cons, List.length_nil]; omega
theorem votesF {vs : List Vote} (h : votesOk vs = true) : vs.length ≤ 40 ∧ ∀ v ∈ vs, VoteF v := by
  simp only [votesOk, Bool.and_eq_true, decide_eq_true_eq, List.all_eq_true] at h
  exact ⟨h.1, fun v hv => voteOk_f (h.2 v hv)⟩
set_option maxHeartbeats 8000000 in
theorem c_spec_MsgText (m : Msg) (hm : m.ok lim) : Pure PP false 25 [.agg m.cells] (os (msgText m)) := by
  have hO := c_spec_MsgOk m hm
  by_cases hok : mOk m = false
  · refine Pure.vc [(6, .res (ob (mOk m)))] TTok hmo Go.Proofs.Tryd.func25 (by kernel_rfl) rfl (by kernel_rfl) ?_
    repeat' (first | refine And.intro ?_ ?_ | exact tf | exact ft | refine tt ?_ | refine ff ?_ | exact fun h => absurd hok (nF h) | exact ⟨trivial⟩ | exact sAll rfl | exact sF1 rfl | exact sBld (by repeat' (first | exact trivial | rfl | exact Nat.le_of_ble_eq_true rfl | refine And.intro ?_ ?_)) rfl | exact sBS (by repeat' (first | exact trivial | rfl | exact Nat.le_of_ble_eq_true rfl | refine And.intro ?_ ?_)) rfl rfl rfl rfl | exact sBSF (by repeat' (first | exact trivial | rfl | exact Nat.le_of_ble_eq_true rfl | refine And.intro ?_ ?_)) rfl rfl rfl rfl | exact sLe rfl | exact Chk.mk (by kernel_rfl) | exact ⟨Chk.mk (by kernel_rfl)⟩ | exact sLeEq rfl rfl | exact sAnd (by repeat' constructor) (hO) | refine fun h => ?_)
    all_goals (rw [text_no hok]; exact ⟨⟨trivial, trivial⟩, rfl, trivial⟩)
  have hok : mOk m = true := by simpa using hok
  have F := mOk_f hok
  have s1 : I6 m.src := ⟨by have := F.src; omega, by have := F.src; omega⟩
  have s2 : I6 m.dst := ⟨by have := F.dst; omega, by have := F.dst; omega⟩
  have s3 : I6 m.bal := ⟨by have := F.bal; omega, by have := F.bal; omega⟩
  have s4 : I6 m.slot := ⟨by have := F.slot; omega, by have := F.slot; omega⟩
  have l1 := s1.len
  have l2 := s2.len
  have l3 := s3.len
  have l4 := s4.len
  have lw := word_len m.kind
  have fk := F.kind
  rw [text_yes hok]
  refine Pure.vc [(6, .res (ob (mOk m))), (8, .res (.one (.fz (words.map wordC)))), (11, .row (wordC (word m.kind))), (16, .res (os (itoa m.src))), (21, .res (os (itoa m.dst))), (26, .res (os (itoa m.bal))), (31, .res (os (itoa m.slot))), (940003, .row [i6 25]), (43, .res (os (entText m.e)))] TTok hmo Go.Proofs.Tryd.func25 (by kernel_rfl) rfl (by kernel_rfl) ?_
  repeat' (first | refine And.intro ?_ ?_ | exact tf | exact ft | refine tt ?_ | refine ff ?_ | exact fun h => absurd hok (nT h) | exact ⟨trivial⟩ | exact sAll rfl | exact sF1 rfl | exact sBld (by repeat' (first | exact trivial | rfl | exact Nat.le_of_ble_eq_true rfl | refine And.intro ?_ ?_)) rfl | exact sBS (by repeat' (first | exact trivial | rfl | exact Nat.le_of_ble_eq_true rfl | refine And.intro ?_ ?_)) rfl rfl rfl rfl | exact sBSF (by repeat' (first | exact trivial | rfl | exact Nat.le_of_ble_eq_true rfl | refine And.intro ?_ ?_)) rfl rfl rfl rfl | exact sLe rfl | exact Chk.mk (by kernel_rfl) | exact ⟨Chk.mk (by kernel_rfl)⟩ | exact sLeEq rfl rfl | exact sAnd (by repeat' constructor) (hO) | exact sAnd (by repeat' constructor) (c_l7Words) | exact sAnd (by repeat' constructor) (c_l15Dec _ s1.1 s1.2) | exact sAnd (by repeat' constructor) (c_l15Dec _ s2.1 s2.2) | exact sAnd (by repeat' constructor) (c_l15Dec _ s3.1 s3.2) | exact sAnd (by repeat' constructor) (c_l15Dec _ s4.1 s4.2) | exact sAnd (by repeat' constructor) (sRow (by omega) (word_at fk) rfl) | refine fun h => ?_)
  all_goals simp only [decide_eq_true_eq, decide_eq_false_iff_not, List.length_map, Bool.not_eq_true', Bool.not_eq_false', Bool.not_eq_eq_eq_not, Bool.not_true, Bool.not_false, bne_iff_ne, ne_eq, bne_eq_false_iff_eq, beq_iff_eq, beq_eq_false_iff_ne] at *
  all_goals try (exfalso; omega)
  all_goals try (exact absurd (hok.symm.trans ‹mOk m = false›) (by decide))
  all_goals try (exact sRow (by omega) (word_at fk) rfl)
  all_goals try (refine ⟨?_⟩; simp only [lit1, lit2, str_app, str_size, List.length_append, List.length_cons, List.length_nil]; omega)
  all_goals try (exact sAnd (by repeat' constructor) (c_spec_MsgEntry _ (entryOk_int (F.ent (by omega))) hm.1))
  all_goals try (have he := ent_len (entryOk_int (F.ent (by omega))) hm.1; refine ⟨?_⟩; simp only [lit1, lit2, str_app, str_size, List.length_append, List.length_cons, List.length_nil]; omega)
  all_goals try (refine ⟨⟨trivial, trivial⟩, ?_, trivial⟩; rw [show msgTail m = [32] ++ entText m.e from if_pos (by omega)]; simp only [lit1, lit2, str_app, msgHead, List.append_assoc]; done)
  all_goals try (refine ⟨⟨trivial, trivial⟩, ?_, trivial⟩; rw [show msgTail m = [] by unfold msgTail; rw [if_neg (by omega), if_neg (by omega)]]; simp only [lit1, lit2, str_app, msgHead, List.append_assoc, List.append_nil]; done)
  have lh : (msgHead m).length ≤ 200 := by simp only [msgHead, List.length_append, List.length_cons, List.length_nil]; omega
  have fv := votesF (F.vs (by omega))
  have ov := hm.2.2
  have hl0 : m.votes.length ≤ 1048576 := by omega
  have gl : ∀ i, (votesText (m.votes.take i)).length ≤ 100000030 * 40 := fun i => by
    have h1 := votesText_len (vs := m.votes.take i) fun v hv => vote_len (fv.2 v (List.mem_of_mem_take hv)) (ov v (List.mem_of_mem_take hv))
    have h2 : (m.votes.take i).length ≤ 40 := by rw [List.length_take]; have := fv.1; omega
    exact Nat.le_trans h1 (Nat.mul_le_mul_left _ h2)
  refine W.loopC (D := Nat) (fun i => [(59, .row (m.votes.getD i default).cells), (62, .res (os (itoa (m.votes.getD i default).bal))), (67, .row (m.votes.getD i default).cells), (75, .row (m.votes.getD i default).cells), (78, .res (os (entText (m.votes.getD i default).e)))]) TTok hmo
    (fun i => ⟨81, 1, [(1, .one (.ptr 0 0 0)), (3, os (msgHead m ++ votesText (m.votes.take i))), (4, oi i)], [(0, .box (m.cells.map MC.toA))]⟩) (fun i => m.votes.length - i) (fun i => i ≤ m.votes.length) 0 [] (Nat.zero_le _) ?_ ?_
  · repeat' (first | exact trivial | exact ⟨trivial⟩ | exact Side.mk rfl | exact sF1 rfl | exact Chk.mk (by kernel_rfl) | exact ⟨Chk.mk (by kernel_rfl)⟩ | exact ⟨by simp only [lit1, lit2, str_app, msgHead, votesText, List.append_assoc, List.take_zero, List.flatMap_nil, List.append_nil]⟩ | refine And.intro ?_ ?_ | rfl)
  · intro i hi
    have fi : i < m.votes.length → VoteF (m.votes.getD i default) := fun h => fv.2 _ (getD_mem h)
    have oi' : i < m.votes.length → (m.votes.getD i default).ok lim := fun h => ov _ (getD_mem h)
    have gi := gl i
    repeat' (first | refine And.intro ?_ ?_ | exact tf | exact ft | refine tt ?_ | refine ff ?_ | exact ⟨trivial⟩ | exact sAll rfl | exact sF1 rfl | exact sBld (by repeat' (first | exact trivial | rfl | exact Nat.le_of_ble_eq_true rfl | refine And.intro ?_ ?_)) rfl | exact sBS (by repeat' (first | exact trivial | rfl | exact Nat.le_of_ble_eq_true rfl | refine And.intro ?_ ?_)) rfl rfl rfl rfl | exact sBSF (by repeat' (first | exact trivial | rfl | exact Nat.le_of_ble_eq_true rfl | refine And.intro ?_ ?_)) rfl rfl rfl rfl | exact sLe rfl | exact Chk.mk (by kernel_rfl) | exact ⟨Chk.mk (by kernel_rfl)⟩ | exact sLeEq rfl rfl | refine fun h => ?_)
    all_goals simp only [decide_eq_true_eq, decide_eq_false_iff_not, List.length_map, Bool.not_eq_true', Bool.not_eq_false', Bool.not_eq_eq_eq_not, Bool.not_true, Bool.not_false, bne_iff_ne, ne_eq, bne_eq_false_iff_eq, beq_iff_eq, beq_eq_false_iff_ne] at *
    all_goals try (exact sRow (by omega) (row_at m.votes _ (by omega)) rfl)
    all_goals try (exact sAnd (by repeat' constructor) (c_l15Dec _ (by have := (fi (by omega)).bal; omega) (by have := (fi (by omega)).bal; omega)))
    all_goals try (exact sAnd (by repeat' constructor) (c_spec_MsgEntry _ (entryOk_int ((fi (by omega)).e (by omega))) (oi' (by omega))))
    all_goals try (have b := fi (by omega); have l := itoa_len (n := (m.votes.getD i default).bal) (by have := b.bal; omega) (by have := b.bal; omega); refine ⟨?_⟩; simp only [lit1, lit2, str_app, str_size, List.length_append, List.length_cons, List.length_nil]; omega)
    all_goals try (have b := fi (by omega); have l := itoa_len (n := (m.votes.getD i default).bal) (by have := b.bal; omega) (by have := b.bal; omega); have l2 := ent_len (entryOk_int (b.e (by omega))) (oi' (by omega)); refine ⟨?_⟩; simp only [lit1, lit2, str_app, str_size, List.length_append, List.length_cons, List.length_nil]; omega)
    · have ev : voteText (m.votes.getD i default) = [32] ++ itoa (m.votes.getD i default).bal ++ entText (m.votes.getD i default).e := by unfold voteText; rw [if_neg (by omega)]
      refine ⟨i + 1, [], by omega, by omega, ?_⟩
      repeat' (first | exact trivial | exact ⟨trivial⟩ | exact Side.mk rfl | exact sF1 rfl | exact Chk.mk (by kernel_rfl) | exact ⟨Chk.mk (by kernel_rfl)⟩ | exact ⟨by rw [wrapi] <;> omega⟩ | exact ⟨by rw [votesText_step (by omega), ev]; simp only [lit1, lit2, str_app, List.append_assoc]⟩ | refine And.intro ?_ ?_ | rfl)
    · have hz : (m.votes.getD i default).bal = 0 := by have := (fi (by omega)).bal; omega
      have ev : voteText (m.votes.getD i default) = [32] ++ itoa (m.votes.getD i default).bal := by unfold voteText; rw [if_pos hz, List.append_nil]
      refine ⟨i + 1, [], by omega, by omega, ?_⟩
      repeat' (first | exact trivial | exact ⟨trivial⟩ | exact Side.mk rfl | exact sF1 rfl | exact Chk.mk (by kernel_rfl) | exact ⟨Chk.mk (by kernel_rfl)⟩ | exact ⟨by rw [wrapi] <;> omega⟩ | exact ⟨by rw [votesText_step (by omega), ev]; simp only [lit1, lit2, str_app, List.append_assoc]⟩ | refine And.intro ?_ ?_ | rfl)
    · rw [show msgTail m = votesText m.votes by unfold msgTail; rw [if_neg (by omega), if_pos (by omega)], List.take_of_length_le (by omega)]
      exact ⟨⟨trivial, trivial⟩, rfl, trivial⟩
end Mg

/- Right messages are written alike exactly if they are the same. No condition. -/
namespace Mg
open Go Go.RowKit Go.Lib
set_option maxRecDepth 100000
set_option linter.unusedVariables false
set_option linter.unusedSimpArgs false
theorem span_sp : ∀ {a b s t : List UInt8}, (∀ x ∈ a, x ≠ 32) → (∀ x ∈ b, x ≠ 32) → a ++ 32 :: s = b ++ 32 :: t → a = b ∧ s = t
  | [], [], s, t, _, _, h => ⟨rfl, (List.cons.inj h).2⟩
  | [], y :: b, s, t, _, hb, h => absurd (List.cons.inj h).1.symm (hb y List.mem_cons_self)
  | x :: a, [], s, t, ha, _, h => absurd (List.cons.inj h).1 (ha x List.mem_cons_self)
  | x :: a, y :: b, s, t, ha, hb, h => by
    obtain ⟨h1, h2⟩ := List.cons.inj h
    obtain ⟨h3, h4⟩ := span_sp (fun z hz => ha z (List.mem_cons_of_mem _ hz)) (fun z hz => hb z (List.mem_cons_of_mem _ hz)) h2
    exact ⟨by rw [h1, h3], h4⟩
theorem word_sp (k : Int) : ∀ x ∈ word k, x ≠ 32 := by
  unfold word
  by_cases h : k.toNat < words.length
  · rw [List.getD_eq_getElem?_getD, List.getElem?_eq_getElem h]
    have : ∀ w ∈ words, ∀ x ∈ w, x ≠ 32 := by decide
    exact this _ (List.getElem_mem h)
  · rw [List.getD_eq_getElem?_getD, List.getElem?_eq_none (by omega)]
    intro x hx; simp at hx
theorem word_inj {k l : Int} (hk : 1 ≤ k ∧ k ≤ 8) (hl : 1 ≤ l ∧ l ≤ 8) (h : word k = word l) : k = l := by
  obtain ⟨n, rfl⟩ := Int.eq_ofNat_of_zero_le (show 0 ≤ k by omega)
  obtain ⟨m, rfl⟩ := Int.eq_ofNat_of_zero_le (show 0 ≤ l by omega)
  have hn : n < 9 := by omega
  have hm : m < 9 := by omega
  unfold word at h
  rw [Int.toNat_natCast, Int.toNat_natCast] at h
  have key : ∀ a b : Fin 9, words.getD a.val [] = words.getD b.val [] → a = b := by decide
  have := key ⟨n, hn⟩ ⟨m, hm⟩ h
  simp at this
  omega
theorem isD32 : isD 32 = false := by decide
/-- A number and a digit behind it. -/
theorem itoa_digit {b w : Int} (hb : 1 ≤ b) (hw : 0 ≤ w ∧ w ≤ 9) : itoa b ++ itoa w = itoa (10 * b + w) := by
  obtain ⟨n, rfl⟩ := Int.eq_ofNat_of_zero_le (show 0 ≤ b by omega)
  obtain ⟨m, rfl⟩ := Int.eq_ofNat_of_zero_le hw.1
  rw [itoa_nn (by omega), itoa_nn (by omega), itoa_nn (by omega)]
  have e : (10 * (n : Int) + m).toNat = 10 * n + m := by omega
  rw [e, Int.toNat_natCast, Int.toNat_natCast, dec_one (u := m) (by omega), dec_more (u := 10 * n + m) (by omega)]
  rw [show (10 * n + m) / 10 = n by omega, show (10 * n + m) % 10 = m by omega]
theorem ent_who {e : Entry} (h : entryOk e = true) (hn : e.none = false) : 0 ≤ e.q.a ∧ e.q.a ≤ 2 := by
  unfold entryOk at h
  rw [hn] at h
  simp only [Bool.false_eq_true, if_false, Bool.and_eq_true, reqOk, inr, decide_eq_true_eq] at h
  omega
/-- What a vote's text begins with, and how it goes on. -/
theorem vote_shape {v : Vote} (hv : VoteF v) (c : UInt8) (s : List UInt8) :
    (v.bal = 0 ∧ voteText v ++ c :: s = 32 :: (itoa 0 ++ c :: s)) ∨ (v.bal ≠ 0 ∧ v.e = zeroE true ∧ voteText v ++ c :: s = 32 :: (itoa v.bal ++ 110 :: ([111, 110, 101] ++ c :: s))) ∨
    (v.bal ≠ 0 ∧ v.e.none = false ∧ voteText v ++ c :: s = 32 :: (itoa v.bal ++ (entText v.e ++ c :: s)) ∧ ∃ r, voteText v ++ c :: s = 32 :: (itoa (10 * v.bal + v.e.q.a) ++ 46 :: r)) := by
  by_cases hb : v.bal = 0
  · exact .inl ⟨hb, by simp [voteText, hb]⟩
  · have ho := hv.e hb
    cases hn : v.e.none with
    | true =>
      have hz := entryOk_none ho hn
      refine .inr (.inl ⟨hb, hz, ?_⟩)
      rw [voteText, if_neg hb, hz]
      simp [entText, zeroE]
    | false =>
      refine .inr (.inr ⟨hb, rfl, by rw [voteText, if_neg hb]; simp, ?_⟩)
      have hw := ent_who ho hn
      have hp := hv.bal
      refine ⟨itoa v.e.q.b ++ 123 :: (twosText 63 47 v.e.run.reads ++ (twosText 33 61 v.e.run.puts ++ 125 :: (itoa v.e.run.c ++ 58 :: itoa v.e.run.d))) ++ c :: s, ?_⟩
      rw [voteText, if_neg hb, ← itoa_digit (by omega) ⟨hw.1, by omega⟩]
      simp [entText, hn]
theorem votes_head (vs : List Vote) : ∃ c r, votesText vs ++ [0] = c :: r ∧ isD c = false ∧ (c = 32 ∨ c = 0) := by
  cases vs with
  | nil => exact ⟨0, [], rfl, by decide, .inr rfl⟩
  | cons v vs => exact ⟨32, _, rfl, by decide, .inl rfl⟩
theorem votesText_cons (v : Vote) (vs : List Vote) : votesText (v :: vs) = voteText v ++ votesText vs := rfl
theorem votes_inj : ∀ {vs ws : List Vote}, (∀ v ∈ vs, VoteF v) → (∀ v ∈ ws, VoteF v) → votesText vs ++ [0] = votesText ws ++ [0] → vs = ws
  | [], [], _, _, _ => rfl
  | [], w :: ws, _, _, h => by
    have : (0 : UInt8) = 32 := (List.cons.inj h).1
    exact absurd this (by decide)
  | v :: vs, [], _, _, h => by
    have : (32 : UInt8) = 0 := (List.cons.inj h).1
    exact absurd this (by decide)
  | v :: vs, w :: ws, hv, hw, h => by
    obtain ⟨c, r, e1, g1, g2⟩ := votes_head vs
    obtain ⟨d, t, e2, g3, g4⟩ := votes_head ws
    rw [votesText_cons, votesText_cons, List.append_assoc, List.append_assoc, e1, e2] at h
    have fv := hv v List.mem_cons_self
    have fw := hw w List.mem_cons_self
    have fin : v = w → c :: r = d :: t → v :: vs = w :: ws := fun h1 h2 => by
      rw [h1, votes_inj (fun x hx => hv x (List.mem_cons_of_mem _ hx)) (fun x hx => hw x (List.mem_cons_of_mem _ hx)) (by rw [e1, e2, h2])]
    have n1 : isD 110 = false := by decide
    have n2 : isD 46 = false := by decide
    have veq : v.bal = w.bal → v.e = w.e → v = w := fun h1 h2 => by cases v; cases w; simp_all
    rcases vote_shape fv c r with ⟨a1, a2⟩ | ⟨a1, a2, a3⟩ | ⟨a1, a2, a3, rr, a4⟩ <;> rcases vote_shape fw d t with ⟨b1, b2⟩ | ⟨b1, b2, b3⟩ | ⟨b1, b2, b3, rs, b4⟩
    · rw [a2, b2] at h
      obtain ⟨_, h1, h2⟩ := itoa_cons g1 g3 (List.cons.inj h).2
      exact fin (veq (by rw [a1, b1]) (by rw [fv.z a1, fw.z b1])) (by rw [h1, h2])
    · rw [a2, b3] at h
      obtain ⟨_, h1, _⟩ := itoa_cons g1 n1 (List.cons.inj h).2
      rcases g2 with rfl | rfl <;> exact absurd h1 (by decide)
    · rw [a2, b4] at h
      obtain ⟨_, h1, _⟩ := itoa_cons g1 n2 (List.cons.inj h).2
      rcases g2 with rfl | rfl <;> exact absurd h1 (by decide)
    · rw [a3, b2] at h
      obtain ⟨_, h1, _⟩ := itoa_cons n1 g3 (List.cons.inj h).2
      rcases g4 with rfl | rfl <;> exact absurd h1 (by decide)
    · rw [a3, b3] at h
      obtain ⟨h1, _, h2⟩ := itoa_cons n1 n1 (List.cons.inj h).2
      exact fin (veq h1 (by rw [a2, b2])) (List.append_cancel_left h2)
    · rw [a3, b4] at h
      obtain ⟨_, h1, _⟩ := itoa_cons n1 n2 (List.cons.inj h).2
      exact absurd h1 (by decide)
    · rw [a4, b2] at h
      obtain ⟨_, h1, _⟩ := itoa_cons n2 g3 (List.cons.inj h).2
      rcases g4 with rfl | rfl <;> exact absurd h1 (by decide)
    · rw [a4, b3] at h
      obtain ⟨_, h1, _⟩ := itoa_cons n2 n1 (List.cons.inj h).2
      exact absurd h1 (by decide)
    · have h' := h
      rw [a4, b4] at h'
      obtain ⟨h1, _, _⟩ := itoa_cons n2 n2 (List.cons.inj h').2
      have wv := ent_who (fv.e a1) a2
      have ww := ent_who (fw.e b1) b2
      have hb : v.bal = w.bal := by omega
      rw [a3, b3, hb] at h
      obtain ⟨h2, h3, h4⟩ := ent_cons a2 b2 g1 g3 (List.append_cancel_left (List.cons.inj h).2)
      exact fin (veq hb h2) (by rw [h3, h4])
theorem tail_head {m : Msg} (h : MsgF m) : ∃ c r, msgTail m ++ [0] = c :: r ∧ isD c = false := by
  unfold msgTail
  split
  · exact ⟨32, _, rfl, by decide⟩
  · split
    · obtain ⟨c, r, h1, h2, _⟩ := votes_head m.votes
      exact ⟨c, r, h1, h2⟩
    · exact ⟨0, [], rfl, by decide⟩
theorem head_app (m : Msg) (s : List UInt8) : msgHead m ++ s = word m.kind ++ 32 :: (itoa m.src ++ 32 :: (itoa m.dst ++ 32 :: (itoa m.bal ++ 32 :: (itoa m.slot ++ s)))) := by simp [msgHead]
theorem head_inj {x y : Msg} (hx : MsgF x) (hy : MsgF y) (h : msgText x = msgText y) (ox : mOk x = true) (oy : mOk y = true) : x.kind = y.kind ∧ x.src = y.src ∧ x.dst = y.dst ∧ x.bal = y.bal ∧ x.slot = y.slot ∧ msgTail x ++ [0] = msgTail y ++ [0] := by
  rw [text_yes ox, text_yes oy] at h
  have h := congrArg (fun l => l ++ [(0 : UInt8)]) h
  simp only [List.append_assoc] at h
  rw [head_app, head_app] at h
  obtain ⟨h1, h⟩ := span_sp (word_sp _) (word_sp _) h
  obtain ⟨h2, _, h⟩ := itoa_cons isD32 isD32 h
  obtain ⟨h3, _, h⟩ := itoa_cons isD32 isD32 h
  obtain ⟨h4, _, h⟩ := itoa_cons isD32 isD32 h
  obtain ⟨c, r, e1, g1⟩ := tail_head hx
  obtain ⟨d, t, e2, g2⟩ := tail_head hy
  rw [e1, e2] at h
  obtain ⟨h5, h6, h7⟩ := itoa_cons g1 g2 h
  exact ⟨word_inj hx.kind hy.kind h1, h2, h3, h4, h5, by rw [e1, e2, h6, h7]⟩
theorem msg_inj {x y : Msg} (ox : mOk x = true) (oy : mOk y = true) : msgText x = msgText y ↔ x = y := by
  refine ⟨fun h => ?_, fun h => by rw [h]⟩
  have hx := mOk_f ox
  have hy := mOk_f oy
  obtain ⟨h1, h2, h3, h4, h5, h6⟩ := head_inj hx hy h ox oy
  have he : x.e = y.e ∧ x.votes = y.votes := by
    by_cases hk : x.kind = 3 ∨ x.kind = 5 ∨ x.kind = 7
    · have hk' : y.kind = 3 ∨ y.kind = 5 ∨ y.kind = 7 := by omega
      have t1 : msgTail x = [32] ++ entText x.e := if_pos hk
      have t2 : msgTail y = [32] ++ entText y.e := if_pos hk'
      rw [t1, t2] at h6
      have h7 := (List.cons.inj (List.append_cancel_right h6)).2
      exact ⟨(ent_inj (hx.ent hk) (hy.ent hk')).1 h7, by rw [hx.novs (by omega), hy.novs (by omega)]⟩
    · have hk' : ¬ (y.kind = 3 ∨ y.kind = 5 ∨ y.kind = 7) := by omega
      refine ⟨by rw [hx.noent hk, hy.noent hk'], ?_⟩
      by_cases h2 : x.kind = 2
      · have h2' : y.kind = 2 := by omega
        have t1 : msgTail x = votesText x.votes := by unfold msgTail; rw [if_neg hk, if_pos h2]
        have t2 : msgTail y = votesText y.votes := by unfold msgTail; rw [if_neg hk', if_pos h2']
        rw [t1, t2] at h6
        exact votes_inj (votesF (hx.vs h2)).2 (votesF (hy.vs h2')).2 h6
      · rw [hx.novs h2, hy.novs (by omega)]
  cases x; cases y; simp_all
end Mg

/- Messages' texts, written by the program. No condition. -/
namespace Mg
open Go Go.RowKit Go.Lib
set_option maxRecDepth 100000
set_option linter.unusedVariables false
set_option linter.unusedSimpArgs false
attribute [local irreducible] W Pure
set_option maxHeartbeats 8000000 in
theorem c_impl_MsgText (m : Msg) (hm : m.ok lim) : Pure PP false 22 [.agg m.cells] (os (msgText m)) := by
  have hO := c_impl_MsgOk m hm
  rw [msgOk_eq] at hO
  by_cases hok : mOk m = false
  · refine Pure.vc [(8, .res (ob (mOk m)))] TTok hmo Go.Proofs.Tryd.func22 (by kernel_rfl) rfl (by kernel_rfl) ?_
    repeat' (first | refine And.intro ?_ ?_ | exact tf | exact ft | refine tt ?_ | refine ff ?_ | exact fun h => absurd hok (nF h) | exact ⟨trivial⟩ | exact sAll rfl | exact sF1 rfl | exact sBld (by repeat' (first | exact trivial | rfl | exact Nat.le_of_ble_eq_true rfl | refine And.intro ?_ ?_)) rfl | exact sBS (by repeat' (first | exact trivial | rfl | exact Nat.le_of_ble_eq_true rfl | refine And.intro ?_ ?_)) rfl rfl rfl rfl | exact sBSF (by repeat' (first | exact trivial | rfl | exact Nat.le_of_ble_eq_true rfl | refine And.intro ?_ ?_)) rfl rfl rfl rfl | exact sLe rfl | exact Chk.mk (by kernel_rfl) | exact ⟨Chk.mk (by kernel_rfl)⟩ | exact sLeEq rfl rfl | exact sAnd (by repeat' constructor) (hO) | refine fun h => ?_)
    all_goals (rw [text_no hok]; exact ⟨⟨trivial, trivial⟩, rfl, trivial⟩)
  have hok : mOk m = true := by simpa using hok
  have F := mOk_f hok
  have s1 : I6 m.src := ⟨by have := F.src; omega, by have := F.src; omega⟩
  have s2 : I6 m.dst := ⟨by have := F.dst; omega, by have := F.dst; omega⟩
  have s3 : I6 m.bal := ⟨by have := F.bal; omega, by have := F.bal; omega⟩
  have s4 : I6 m.slot := ⟨by have := F.slot; omega, by have := F.slot; omega⟩
  have l1 := s1.len
  have l2 := s2.len
  have l3 := s3.len
  have l4 := s4.len
  have lw := word_len m.kind
  have fk := F.kind
  rw [text_yes hok]
  refine Pure.vc [(8, .res (ob (mOk m))), (10, .row []), (13, .row (wordC (word m.kind))), (19, .res (os (itoa m.src))), (24, .res (os (itoa m.dst))), (29, .res (os (itoa m.bal))), (34, .res (os (itoa m.slot))), (45, .res (os (entText m.e)))] TTok hmo Go.Proofs.Tryd.func22 (by kernel_rfl) rfl (by kernel_rfl) ?_
  repeat' (first | refine And.intro ?_ ?_ | exact tf | exact ft | refine tt ?_ | refine ff ?_ | exact fun h => absurd hok (nT h) | exact ⟨trivial⟩ | exact sAll rfl | exact sF1 rfl | exact sBld (by repeat' (first | exact trivial | rfl | exact Nat.le_of_ble_eq_true rfl | refine And.intro ?_ ?_)) rfl | exact sBS (by repeat' (first | exact trivial | rfl | exact Nat.le_of_ble_eq_true rfl | refine And.intro ?_ ?_)) rfl rfl rfl rfl | exact sBSF (by repeat' (first | exact trivial | rfl | exact Nat.le_of_ble_eq_true rfl | refine And.intro ?_ ?_)) rfl rfl rfl rfl | exact sLe rfl | exact Chk.mk (by kernel_rfl) | exact ⟨Chk.mk (by kernel_rfl)⟩ | exact sLeEq rfl rfl | exact sAnd (by repeat' constructor) (hO) | exact sAnd (by repeat' constructor) (c_Itoa _ s1.1 s1.2) | exact sAnd (by repeat' constructor) (c_Itoa _ s2.1 s2.2) | exact sAnd (by repeat' constructor) (c_Itoa _ s3.1 s3.2) | exact sAnd (by repeat' constructor) (c_Itoa _ s4.1 s4.2) | refine fun h => ?_)
  all_goals simp only [decide_eq_true_eq, decide_eq_false_iff_not, List.length_map, Bool.not_eq_true', Bool.not_eq_false', Bool.not_eq_eq_eq_not, Bool.not_true, Bool.not_false, bne_iff_ne, ne_eq, bne_eq_false_iff_eq, beq_iff_eq, beq_eq_false_iff_ne] at *
  all_goals try (exfalso; omega)
  all_goals try (refine Side.mk ⟨by omega, ?_, rfl⟩; exact word_at fk)
  all_goals try (refine ⟨?_⟩; simp only [lit1, lit2, str_app, str_size, List.length_append, List.length_cons, List.length_nil]; omega)
  all_goals try (exact sAnd (by repeat' constructor) (c_impl_MsgEntry _ (entryOk_int (F.ent (by omega))) hm.1))
  all_goals try (have he := ent_len (entryOk_int (F.ent (by omega))) hm.1; refine ⟨?_⟩; simp only [lit1, lit2, str_app, str_size, List.length_append, List.length_cons, List.length_nil]; omega)
  all_goals try (refine ⟨⟨trivial, trivial⟩, ?_, trivial⟩; rw [show msgTail m = [32] ++ entText m.e from if_pos (by omega)]; simp only [lit1, lit2, str_app, msgHead, List.append_assoc]; done)
  all_goals try (refine ⟨⟨trivial, trivial⟩, ?_, trivial⟩; rw [show msgTail m = [] by unfold msgTail; rw [if_neg (by omega), if_neg (by omega)]]; simp only [lit1, lit2, str_app, msgHead, List.append_assoc, List.append_nil]; done)
  have lh : (msgHead m).length ≤ 200 := by simp only [msgHead, List.length_append, List.length_cons, List.length_nil]; omega
  have fv := votesF (F.vs (by omega))
  have ov := hm.2.2
  have hl0 : m.votes.length ≤ 1048576 := by omega
  have gl : ∀ i, (votesText (m.votes.take i)).length ≤ 100000030 * 40 := fun i => by
    have h1 := votesText_len (vs := m.votes.take i) fun v hv => vote_len (fv.2 v (List.mem_of_mem_take hv)) (ov v (List.mem_of_mem_take hv))
    have h2 : (m.votes.take i).length ≤ 40 := by rw [List.length_take]; have := fv.1; omega
    exact Nat.le_trans h1 (Nat.mul_le_mul_left _ h2)
  refine W.loopC (D := Nat) (fun i => [(55, .row (m.votes.getD i default).cells), (60, .res (os (itoa (m.votes.getD i default).bal))), (69, .res (os (entText (m.votes.getD i default).e)))]) TTok hmo
    (fun i => ⟨73, 1, [(1, .one (.ptr 0 0 0)), (4, os (msgHead m ++ votesText (m.votes.take i))), (51, .one (.ag (m.votes.map Vote.cells))), (52, oi m.votes.length), (53, oi i)], [(0, .box (m.cells.map MC.toA))]⟩) (fun i => m.votes.length - i) (fun i => i ≤ m.votes.length) 0 [] (Nat.zero_le _) ?_ ?_
  · repeat' (first | exact trivial | exact ⟨trivial⟩ | exact Side.mk rfl | exact sF1 rfl | exact Chk.mk (by kernel_rfl) | exact ⟨Chk.mk (by kernel_rfl)⟩ | exact ⟨by simp only [lit1, lit2, str_app, msgHead, votesText, List.append_assoc, List.take_zero, List.flatMap_nil, List.append_nil]⟩ | refine And.intro ?_ ?_ | rfl)
  · intro i hi
    have fi : i < m.votes.length → VoteF (m.votes.getD i default) := fun h => fv.2 _ (getD_mem h)
    have oi' : i < m.votes.length → (m.votes.getD i default).ok lim := fun h => ov _ (getD_mem h)
    have gi := gl i
    repeat' (first | refine And.intro ?_ ?_ | exact tf | exact ft | refine tt ?_ | refine ff ?_ | exact ⟨trivial⟩ | exact sAll rfl | exact sF1 rfl | exact sBld (by repeat' (first | exact trivial | rfl | exact Nat.le_of_ble_eq_true rfl | refine And.intro ?_ ?_)) rfl | exact sBS (by repeat' (first | exact trivial | rfl | exact Nat.le_of_ble_eq_true rfl | refine And.intro ?_ ?_)) rfl rfl rfl rfl | exact sBSF (by repeat' (first | exact trivial | rfl | exact Nat.le_of_ble_eq_true rfl | refine And.intro ?_ ?_)) rfl rfl rfl rfl | exact sLe rfl | exact Chk.mk (by kernel_rfl) | exact ⟨Chk.mk (by kernel_rfl)⟩ | exact sLeEq rfl rfl | refine fun h => ?_)
    all_goals simp only [decide_eq_true_eq, decide_eq_false_iff_not, List.length_map, Bool.not_eq_true', Bool.not_eq_false', Bool.not_eq_eq_eq_not, Bool.not_true, Bool.not_false, bne_iff_ne, ne_eq, bne_eq_false_iff_eq, beq_iff_eq, beq_eq_false_iff_ne] at *
    all_goals try (exact sRow (by omega) (row_at m.votes _ (by omega)) rfl)
    all_goals try (exact sAnd (by repeat' constructor) (c_Itoa _ (by have := (fi (by omega)).bal; omega) (by have := (fi (by omega)).bal; omega)))
    all_goals try (exact sAnd (by repeat' constructor) (c_impl_MsgEntry _ (entryOk_int ((fi (by omega)).e (by omega))) (oi' (by omega))))
    all_goals try (have b := fi (by omega); have l := itoa_len (n := (m.votes.getD i default).bal) (by have := b.bal; omega) (by have := b.bal; omega); refine ⟨?_⟩; simp only [lit1, lit2, str_app, str_size, List.length_append, List.length_cons, List.length_nil]; omega)
    all_goals try (have b := fi (by omega); have l := itoa_len (n := (m.votes.getD i default).bal) (by have := b.bal; omega) (by have := b.bal; omega); have l2 := ent_len (entryOk_int (b.e (by omega))) (oi' (by omega)); refine ⟨?_⟩; simp only [lit1, lit2, str_app, str_size, List.length_append, List.length_cons, List.length_nil]; omega)
    · have ev : voteText (m.votes.getD i default) = [32] ++ itoa (m.votes.getD i default).bal ++ entText (m.votes.getD i default).e := by unfold voteText; rw [if_neg (by omega)]
      refine ⟨i + 1, [], by omega, by omega, ?_⟩
      repeat' (first | exact trivial | exact ⟨trivial⟩ | exact Side.mk rfl | exact sF1 rfl | exact Chk.mk (by kernel_rfl) | exact ⟨Chk.mk (by kernel_rfl)⟩ | exact ⟨by rw [wrapi] <;> omega⟩ | exact ⟨by rw [votesText_step (by omega), ev]; simp only [lit1, lit2, str_app, List.append_assoc]⟩ | refine And.intro ?_ ?_ | rfl)
    · have hz : (m.votes.getD i default).bal = 0 := by omega
      have ev : voteText (m.votes.getD i default) = [32] ++ itoa (m.votes.getD i default).bal := by unfold voteText; rw [if_pos hz, List.append_nil]
      refine ⟨i + 1, [], by omega, by omega, ?_⟩
      repeat' (first | exact trivial | exact ⟨trivial⟩ | exact Side.mk rfl | exact sF1 rfl | exact Chk.mk (by kernel_rfl) | exact ⟨Chk.mk (by kernel_rfl)⟩ | exact ⟨by rw [wrapi] <;> omega⟩ | exact ⟨by rw [votesText_step (by omega), ev]; simp only [lit1, lit2, str_app, List.append_assoc]⟩ | refine And.intro ?_ ?_ | rfl)
    · rw [show msgTail m = votesText m.votes by unfold msgTail; rw [if_neg (by omega), if_pos (by omega)], List.take_of_length_le (by omega)]
      exact ⟨⟨trivial, trivial⟩, rfl, trivial⟩
end Mg

/- Messages that are drawn, whole; what the laws ask. No condition. -/
namespace Mg
open Go Go.RowKit Go.Lib
set_option maxRecDepth 100000
set_option linter.unusedVariables false
set_option linter.unusedSimpArgs false
attribute [local irreducible] W Pure Con
def DM (m : Msg) : Prop := m.e.ok 30 ∧ m.votes.length ≤ 10 ∧ VsOk 30 m.votes
def sMsg (ds : List MV) (os : List Ob) : ConT := match os with
  | [.box [b, .sc (.int _ p)]] => ⟨Msg × Int, fun d => DM d.1 ∧ p ≤ d.2 ∧ d.2 ≤ p + 4000, fun d => .agg d.1.cells, fun d => [.box [b, i6 d.2]]⟩
  | _ => noT
def sMsgD (ds : List MV) (os : List Ob) : ConT := ⟨Msg, fun d => DM d, fun d => .agg d.cells, fun _ => []⟩
theorem exU2 {Q : Unit → Prop} (h : Q ()) : ∃ d, Q d := ⟨(), h⟩
theorem exMs {Q : Msg → Prop} (a : Msg) (h : Q a) : ∃ d, Q d := ⟨_, h⟩
theorem e30 {e : Entry} (h : e.ok 30) : e.ok lim := ⟨Nat.le_trans h.1 (by decide), Nat.le_trans h.2 (by decide)⟩
theorem DM.lim {m : Msg} (h : DM m) : m.ok Mg.lim := ⟨e30 h.1, Nat.le_trans h.2.1 (by decide), fun v hv => e30 (h.2.2 v hv)⟩
theorem c_DrawMsgOk (bs : List Int) (hb : Code8 bs) : Con PP 19 [.one (.fz (bs.map u8))] [] 0 (fun d : Msg => DM d) (fun d => .agg d.cells) (fun _ => []) := by
  refine Con.vc [(4, .con false [] [] [] sOpen), (5, .con false [1] [] [] sMsg)] TTok hmo Go.Proofs.Tryd.func19 rfl (by kernel_rfl) rfl (by kernel_rfl) ?_
  repeat' (first | refine And.intro ?_ ?_ | exact tf | exact ft | refine tt ?_ | refine ff ?_ | exact ⟨trivial⟩ | exact sAll rfl | exact sF1 rfl | exact sBld (by repeat' (first | exact trivial | rfl | exact Nat.le_of_ble_eq_true rfl | refine And.intro ?_ ?_)) rfl | exact sBS (by repeat' (first | exact trivial | rfl | exact Nat.le_of_ble_eq_true rfl | refine And.intro ?_ ?_)) rfl rfl rfl rfl | exact sBSF (by repeat' (first | exact trivial | rfl | exact Nat.le_of_ble_eq_true rfl | refine And.intro ?_ ?_)) rfl rfl rfl rfl | exact sLe rfl | exact Chk.mk (by kernel_rfl) | exact ⟨Chk.mk (by kernel_rfl)⟩ | exact sLeEq rfl rfl | refine fun h => ?_)
  all_goals dsimp only [sOpen, sMsg] at *
  all_goals try (exact ⟨fun _ _ => trivial⟩)
  all_goals try (exact ⟨c_l15Open bs hb⟩)
  all_goals try (exact ⟨c_l7Msg _ ‹_› _ (by omega) (by omega)⟩)
  all_goals try (first | exact ⟨trivial, trivial⟩ | exact ⟨Nat.le_of_ble_eq_true rfl, trivial⟩ | exact ⟨trivial, Nat.le_of_ble_eq_true rfl, trivial⟩ | exact ⟨Nat.le_of_ble_eq_true rfl, trivial, trivial⟩)
  · rename_i d0 _ d1
    apply exMs d1.1; refine ⟨[], [], h.1, ?_⟩
    repeat' (first | exact trivial | exact ⟨trivial⟩ | exact Side.mk rfl | exact sF1 rfl | exact Chk.mk (by kernel_rfl) | exact ⟨Chk.mk (by kernel_rfl)⟩ | refine And.intro ?_ ?_ | rfl)
theorem c_DrawMsgText (bs : List Int) (hb : Code8 bs) : Con PP 23 [.one (.fz (bs.map u8))] [] 0 (fun d : Msg => DM d) (fun d => .agg d.cells) (fun _ => []) := by
  refine Con.vc [(4, .con false [] [] [] sOpen), (5, .con false [1] [] [] sMsg)] TTok hmo Go.Proofs.Tryd.func23 rfl (by kernel_rfl) rfl (by kernel_rfl) ?_
  repeat' (first | refine And.intro ?_ ?_ | exact tf | exact ft | refine tt ?_ | refine ff ?_ | exact ⟨trivial⟩ | exact sAll rfl | exact sF1 rfl | exact sBld (by repeat' (first | exact trivial | rfl | exact Nat.le_of_ble_eq_true rfl | refine And.intro ?_ ?_)) rfl | exact sBS (by repeat' (first | exact trivial | rfl | exact Nat.le_of_ble_eq_true rfl | refine And.intro ?_ ?_)) rfl rfl rfl rfl | exact sBSF (by repeat' (first | exact trivial | rfl | exact Nat.le_of_ble_eq_true rfl | refine And.intro ?_ ?_)) rfl rfl rfl rfl | exact sLe rfl | exact Chk.mk (by kernel_rfl) | exact ⟨Chk.mk (by kernel_rfl)⟩ | exact sLeEq rfl rfl | refine fun h => ?_)
  all_goals dsimp only [sOpen, sMsg] at *
  all_goals try (exact ⟨fun _ _ => trivial⟩)
  all_goals try (exact ⟨c_l15Open bs hb⟩)
  all_goals try (exact ⟨c_l7Msg _ ‹_› _ (by omega) (by omega)⟩)
  all_goals try (first | exact ⟨trivial, trivial⟩ | exact ⟨Nat.le_of_ble_eq_true rfl, trivial⟩ | exact ⟨trivial, Nat.le_of_ble_eq_true rfl, trivial⟩ | exact ⟨Nat.le_of_ble_eq_true rfl, trivial, trivial⟩)
  · rename_i d0 _ d1
    apply exMs d1.1; refine ⟨[], [], h.1, ?_⟩
    repeat' (first | exact trivial | exact ⟨trivial⟩ | exact Side.mk rfl | exact sF1 rfl | exact Chk.mk (by kernel_rfl) | exact ⟨Chk.mk (by kernel_rfl)⟩ | refine And.intro ?_ ?_ | rfl)
theorem c_iOk (m : Msg) (h : m.ok lim) {b : Bool} (e : mOk m = b) : Pure PP false 20 [.agg m.cells] (ob b) := by
  have := c_impl_MsgOk m h
  rw [msgOk_eq] at this
  exact e ▸ this
theorem c_sOk (m : Msg) (h : m.ok lim) {b : Bool} (e : mOk m = b) : Pure PP false 21 [.agg m.cells] (ob b) := e ▸ c_spec_MsgOk m h
theorem toList_loop (l : List UInt8) : ∀ (n i : Nat) (r : List UInt8), i + n = l.length → ByteArray.toList.loop (str l) i r = r.reverse ++ l.drop i
  | 0, i, r, h => by
    unfold ByteArray.toList.loop
    rw [if_neg (by rw [str_size]; omega), List.drop_eq_nil_of_le (by omega), List.append_nil]
  | n + 1, i, r, h => by
    unfold ByteArray.toList.loop
    rw [if_pos (by rw [str_size]; omega), toList_loop l n (i + 1) _ (by omega), List.drop_eq_getElem_cons (show i < l.length by omega)]
    have : (str l).get! i = l[i]'(by omega) := by
      show (str l).data[i]! = _
      rw [getElem!_pos _ i (by simp [str]; omega)]
      simp [str]
    rw [this]; simp
theorem toList_str (l : List UInt8) : (str l).toList = l := by
  unfold ByteArray.toList
  rw [toList_loop l l.length 0 [] (by omega)]
  simp
end Mg
