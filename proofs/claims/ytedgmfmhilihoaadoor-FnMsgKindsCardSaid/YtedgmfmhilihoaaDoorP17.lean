/- Parts of the abstract state logic and of the walks, one behind the other: TXF, TX1, L1, TX2, TX3, TX4. No condition. -/
import Derived.Test.YtedgmfmhilihoaaDoorP16
import Derived.Test.YtedgmfmhilihoaaDoorP15
import Derived.Test.YtedgmfmhilihoaaDoorP11
import Derived.Test.YtedgmfmhilihoaaDoorP12
import Derived.Lib.ItoaMem
import Derived.Test.YtedgmfmhilihoaaDoorP13
/- Messages that are drawn. No condition. -/
namespace Mg
open Go Go.RowKit
set_option maxRecDepth 100000
set_option linter.unusedVariables false
set_option linter.unusedSimpArgs false
attribute [local irreducible] W Pure Con
structure DMsg where
  k : Int
  f : Int
  t : Int
  b : Int
  s : Int
  e : Entry
  vs : List Vote
  q : Int
def DMsg.st (bs : List Int) (d : DMsg) : S := ⟨83, 3, [(0, .one (.ptr 0 0 0)), (2, .one (.ptr 1 0 0)), (3, .one (.ptr 2 0 0))],
  [(0, rdO bs d.q), (1, .box [i6 0, i6 0, i6 0, i6 0, i6 0, bo false, i6 0, i6 0, .nil, .nil, i6 0, i6 0, .nil]), (2, .box ([i6 d.k, i6 d.f, i6 d.t, i6 d.b, i6 d.s] ++ d.e.cells ++ [.fz (d.vs.map Vote.cells)]))]⟩
structure DMsg.inv (p : Int) (d : DMsg) : Prop where
  e : d.e.ok 30
  l : d.vs.length ≤ 10
  v : VsOk 30 d.vs
  q : p ≤ d.q ∧ d.q ≤ p + 3000
theorem exD {Q : DMsg → Prop} (e : Entry) (vs : List Vote) (k f t b s q : Int) (h : Q ⟨k, f, t, b, s, e, vs, q⟩) : ∃ d, Q d := ⟨_, h⟩
theorem zE30 (b : Bool) : (zeroE b).ok 30 := ⟨Nat.zero_le _, Nat.zero_le _⟩
theorem vs30 : VsOk 30 [] := fun v hv => by cases hv
theorem exMsg {Q : Msg × Int → Prop} (e : Entry) (vs : List Vote) (k f t b s q : Int) (h : Q (⟨k, f, t, b, s, e, vs⟩, q)) : ∃ d, Q d := ⟨_, h⟩
set_option maxHeartbeats 8000000 in
theorem c_l7Msg (bs : List Int) (hb : BsOk bs) (p : Int) (h0 : 0 ≤ p) (h1 : p ≤ 999999000) : Con PP 45 [.one (.ptr 0 0 0)] [rdO bs p] 1
    (fun d : Msg × Int => (d.1.e.ok 30 ∧ d.1.votes.length ≤ 10 ∧ VsOk 30 d.1.votes) ∧ p ≤ d.2 ∧ d.2 ≤ p + 4000) (fun d => .agg d.1.cells) (fun d => [rdO bs d.2]) := by
  refine Con.vc [(5, .con false [0] [] [] sPick), (8, .con false [0] [] [] sPick), (10, .con false [0] [] [] sPick), (13, .con false [0] [] [] sPick), (19, .con false [0] [] [] sPick), (900002, .row [i6 0, i6 1, i6 2, i6 3, i6 4, i6 5, i6 6, i6 7, i6 8]), (800003, .row [])] TTok hmo Go.Proofs.Tryd.func45 rfl (by kernel_rfl) rfl (by kernel_rfl) ?_
  repeat' (first | refine And.intro ?_ ?_ | exact tf | exact ft | refine tt ?_ | refine ff ?_ | exact ⟨trivial⟩ | exact sAll rfl | exact sF1 rfl | exact sBld (by repeat' (first | exact trivial | rfl | exact Nat.le_of_ble_eq_true rfl | refine And.intro ?_ ?_)) rfl | exact sBS (by repeat' (first | exact trivial | rfl | exact Nat.le_of_ble_eq_true rfl | refine And.intro ?_ ?_)) rfl rfl rfl rfl | exact sBSF (by repeat' (first | exact trivial | rfl | exact Nat.le_of_ble_eq_true rfl | refine And.intro ?_ ?_)) rfl rfl rfl rfl | exact sLe rfl | exact Chk.mk (by kernel_rfl) | exact ⟨Chk.mk (by kernel_rfl)⟩ | exact sLeEq rfl rfl | refine fun h => ?_)
  all_goals dsimp only [sPick] at *
  all_goals try (exact ⟨fun _ _ => trivial⟩)
  all_goals try (exact ⟨fun _ _ => ⟨trivial, trivial⟩⟩)
  all_goals try (exact ⟨c_pick bs hb _ _ (by omega) (by omega)⟩)
  all_goals try (first | exact ⟨trivial, trivial⟩ | exact ⟨Nat.le_of_ble_eq_true rfl, trivial⟩ | exact ⟨trivial, Nat.le_of_ble_eq_true rfl, trivial⟩ | exact ⟨Nat.le_of_ble_eq_true rfl, trivial, trivial⟩)
  all_goals try (exact ⟨rfl⟩)
  all_goals try (exact ⟨by decide⟩)
  all_goals try (exact ⟨trivial⟩)
  all_goals try (exact trivial)
  refine W.nfb 2 rfl ?_
  refine W.cut [(30, .res (.one (.fz ((List.replicate 4 (⟨0, 0⟩ : Two)).map Two.cells)))), (31, .con false [0] [] [] sAny5), (36, .con false [0] [] [] sAcc)] TTok hmo (DMsg.st bs) (DMsg.inv p) ?_ ?_
  · repeat' (first | refine And.intro ?_ ?_ | exact tf | exact ft | refine tt ?_ | refine ff ?_ | exact ⟨trivial⟩ | exact sAll rfl | exact sF1 rfl | exact sBld (by repeat' (first | exact trivial | rfl | exact Nat.le_of_ble_eq_true rfl | refine And.intro ?_ ?_)) rfl | exact sBS (by repeat' (first | exact trivial | rfl | exact Nat.le_of_ble_eq_true rfl | refine And.intro ?_ ?_)) rfl rfl rfl rfl | exact sBSF (by repeat' (first | exact trivial | rfl | exact Nat.le_of_ble_eq_true rfl | refine And.intro ?_ ?_)) rfl rfl rfl rfl | exact sLe rfl | exact Chk.mk (by kernel_rfl) | exact ⟨Chk.mk (by kernel_rfl)⟩ | exact sLeEq rfl rfl | exact sAnd (by repeat' constructor) (c_BoxOpen) | refine fun h => ?_)
    all_goals dsimp only [sAny5, sAcc] at *
    all_goals try (exact ⟨fun _ _ => trivial⟩)
    all_goals try (exact ⟨fun _ _ => ⟨trivial, trivial⟩⟩)
    all_goals try (exact ⟨c_l5Any bs hb (List.replicate 4 ⟨0, 0⟩) (by decide) _ (by omega) (by omega)⟩)
    all_goals try (exact ⟨c_l6Acc bs hb _ (by omega) (by omega)⟩)
    all_goals try (first | exact ⟨trivial, trivial⟩ | exact ⟨Nat.le_of_ble_eq_true rfl, trivial⟩ | exact ⟨trivial, Nat.le_of_ble_eq_true rfl, trivial⟩ | exact ⟨Nat.le_of_ble_eq_true rfl, trivial, trivial⟩)
    all_goals first
      | (rename_i x; show ∃ (d : DMsg) (bl : List (Nat × Nat)), _ ∧ _; apply exD x.1 []; refine ⟨[], ⟨h.1, Nat.zero_le _, vs30, ?_⟩, ?_⟩; rotate_left 1; (focus (repeat' (first | exact trivial | exact ⟨trivial⟩ | exact Side.mk rfl | exact sF1 rfl | exact Chk.mk (by kernel_rfl) | exact ⟨Chk.mk (by kernel_rfl)⟩ | refine And.intro ?_ ?_ | rfl))); exact ⟨Int.le_trans (by omega) h.2.1, Int.le_trans h.2.2 (by omega)⟩; done)
      | (rename_i x; show ∃ (d : DMsg) (bl : List (Nat × Nat)), _ ∧ _; apply exD (zeroE false) x.1.votes; refine ⟨[], ⟨zE30 _, h.1, h.2.1, ?_⟩, ?_⟩; rotate_left 1; (focus (repeat' (first | exact trivial | exact ⟨trivial⟩ | exact Side.mk rfl | exact sF1 rfl | exact Chk.mk (by kernel_rfl) | exact ⟨Chk.mk (by kernel_rfl)⟩ | refine And.intro ?_ ?_ | rfl))); exact ⟨Int.le_trans (by omega) h.2.2.1, Int.le_trans h.2.2.2 (by omega)⟩; done)
      | (show ∃ (d : DMsg) (bl : List (Nat × Nat)), _ ∧ _; apply exD (zeroE false) []; refine ⟨[], ⟨zE30 _, Nat.zero_le _, vs30, ?_⟩, ?_⟩; rotate_left 1; (focus (repeat' (first | exact trivial | exact ⟨trivial⟩ | exact Side.mk rfl | exact sF1 rfl | exact Chk.mk (by kernel_rfl) | exact ⟨Chk.mk (by kernel_rfl)⟩ | refine And.intro ?_ ?_ | rfl))); dsimp only; omega; done)
      | skip
  · rintro ⟨k, f, t, b, s, e, vs, q⟩ ⟨he, hl, hv, hq⟩
    dsimp only at he hl hv hq
    refine W.go [(800010, .row [])] TTok hmo ?_
    refine W.cut [] TTok hmo (DMsg.st bs) (DMsg.inv p) ?_ ?_
    · repeat' (first | refine And.intro ?_ ?_ | exact tf | exact ft | refine tt ?_ | refine ff ?_ | exact ⟨trivial⟩ | exact sAll rfl | exact sF1 rfl | exact sBld (by repeat' (first | exact trivial | rfl | exact Nat.le_of_ble_eq_true rfl | refine And.intro ?_ ?_)) rfl | exact sBS (by repeat' (first | exact trivial | rfl | exact Nat.le_of_ble_eq_true rfl | refine And.intro ?_ ?_)) rfl rfl rfl rfl | exact sBSF (by repeat' (first | exact trivial | rfl | exact Nat.le_of_ble_eq_true rfl | refine And.intro ?_ ?_)) rfl rfl rfl rfl | exact sLe rfl | exact Chk.mk (by kernel_rfl) | exact ⟨Chk.mk (by kernel_rfl)⟩ | exact sLeEq rfl rfl | refine fun h => ?_)
      all_goals first
        | (refine ⟨⟨k, f, t, b, s, e, vs, q⟩, [], ⟨he, hl, hv, hq⟩, ?_⟩; (focus (repeat' (first | exact trivial | exact ⟨trivial⟩ | exact Side.mk rfl | exact sF1 rfl | exact Chk.mk (by kernel_rfl) | exact ⟨Chk.mk (by kernel_rfl)⟩ | refine And.intro ?_ ?_ | rfl))); done)
        | (refine ⟨⟨k, f, t, 0, s, e, vs, q⟩, [], ⟨he, hl, hv, hq⟩, ?_⟩; (focus (repeat' (first | exact trivial | exact ⟨trivial⟩ | exact Side.mk rfl | exact sF1 rfl | exact Chk.mk (by kernel_rfl) | exact ⟨Chk.mk (by kernel_rfl)⟩ | refine And.intro ?_ ?_ | rfl))); done)
    · rintro ⟨k, f, t, b, s, e, vs, q⟩ ⟨he, hl, hv, hq⟩
      dsimp only at he hl hv hq
      refine W.go [(800012, .row [])] TTok hmo ?_
      refine W.cut [] TTok hmo (DMsg.st bs) (DMsg.inv p) ?_ ?_
      · repeat' (first | refine And.intro ?_ ?_ | exact tf | exact ft | refine tt ?_ | refine ff ?_ | exact ⟨trivial⟩ | exact sAll rfl | exact sF1 rfl | exact sBld (by repeat' (first | exact trivial | rfl | exact Nat.le_of_ble_eq_true rfl | refine And.intro ?_ ?_)) rfl | exact sBS (by repeat' (first | exact trivial | rfl | exact Nat.le_of_ble_eq_true rfl | refine And.intro ?_ ?_)) rfl rfl rfl rfl | exact sBSF (by repeat' (first | exact trivial | rfl | exact Nat.le_of_ble_eq_true rfl | refine And.intro ?_ ?_)) rfl rfl rfl rfl | exact sLe rfl | exact Chk.mk (by kernel_rfl) | exact ⟨Chk.mk (by kernel_rfl)⟩ | exact sLeEq rfl rfl | refine fun h => ?_)
        all_goals first
          | (refine ⟨⟨k, f, t, b, s, e, vs, q⟩, [], ⟨he, hl, hv, hq⟩, ?_⟩; (focus (repeat' (first | exact trivial | exact ⟨trivial⟩ | exact Side.mk rfl | exact sF1 rfl | exact Chk.mk (by kernel_rfl) | exact ⟨Chk.mk (by kernel_rfl)⟩ | refine And.intro ?_ ?_ | rfl))); done)
          | (refine ⟨⟨k, f, t, b, 0, e, vs, q⟩, [], ⟨he, hl, hv, hq⟩, ?_⟩; (focus (repeat' (first | exact trivial | exact ⟨trivial⟩ | exact Side.mk rfl | exact sF1 rfl | exact Chk.mk (by kernel_rfl) | exact ⟨Chk.mk (by kernel_rfl)⟩ | refine And.intro ?_ ?_ | rfl))); done)
      · rintro ⟨k, f, t, b, s, e, vs, q⟩ ⟨he, hl, hv, hq⟩
        dsimp only at he hl hv hq
        refine W.go [(58, .con false [0] [] [] sPick), (62, .row []), (73, .row []), (79, .row []), (63, .con false [0] [] [] sNum), (74, .con false [0] [] [] sNum), (80, .con false [0] [] [] sNum)] TTok hmo ?_
        repeat' (first | refine And.intro ?_ ?_ | exact tf | exact ft | refine tt ?_ | refine ff ?_ | exact ⟨trivial⟩ | exact sAll rfl | exact sF1 rfl | exact sBld (by repeat' (first | exact trivial | rfl | exact Nat.le_of_ble_eq_true rfl | refine And.intro ?_ ?_)) rfl | exact sBS (by repeat' (first | exact trivial | rfl | exact Nat.le_of_ble_eq_true rfl | refine And.intro ?_ ?_)) rfl rfl rfl rfl | exact sBSF (by repeat' (first | exact trivial | rfl | exact Nat.le_of_ble_eq_true rfl | refine And.intro ?_ ?_)) rfl rfl rfl rfl | exact sLe rfl | exact Chk.mk (by kernel_rfl) | exact ⟨Chk.mk (by kernel_rfl)⟩ | exact sLeEq rfl rfl | refine fun h => ?_)
        all_goals dsimp only [sPick, sNum] at *
        all_goals try (exact ⟨fun _ _ => trivial⟩)
        all_goals try (exact ⟨fun _ _ => ⟨trivial, trivial⟩⟩)
        all_goals try (exact ⟨c_pick bs hb _ _ (by omega) (by omega)⟩)
        all_goals try (exact ⟨c_num bs hb _ (by omega) (by omega) [0, 9] (by decide) (by decide)⟩)
        all_goals try (exact ⟨c_num bs hb _ (by omega) (by omega) [-1, 3001, 0] (by decide) (by decide)⟩)
        all_goals try (exact ⟨c_num bs hb _ (by omega) (by omega) [-1, 40, 41] (by decide) (by decide)⟩)
        all_goals try (first | exact ⟨trivial, trivial⟩ | exact ⟨Nat.le_of_ble_eq_true rfl, trivial⟩ | exact ⟨trivial, Nat.le_of_ble_eq_true rfl, trivial⟩ | exact ⟨Nat.le_of_ble_eq_true rfl, trivial, trivial⟩)
        all_goals (apply exMsg e vs; refine ⟨[], [], ⟨⟨he, hl, hv⟩, ?_⟩, ?_⟩; rotate_left 1; (focus (repeat' (first | exact trivial | exact ⟨trivial⟩ | exact Side.mk rfl | exact sF1 rfl | exact Chk.mk (by kernel_rfl) | exact ⟨Chk.mk (by kernel_rfl)⟩ | refine And.intro ?_ ?_ | rfl))))
        all_goals (dsimp only; omega)
end Mg

/- Texts of numbers, entries, messages, and that they say what they were made of. No condition. -/
namespace Mg
open Go Go.Lib
set_option linter.unusedVariables false
/-- A text of bytes. -/
def str (l : List UInt8) : ByteArray := ⟨l.toArray⟩
theorem str_app (a b : List UInt8) : str a ++ str b = str (a ++ b) := by
  apply ByteArray.ext
  simp [str]
theorem str_size (l : List UInt8) : (str l).size = l.length := by simp [str, ByteArray.size]
theorem str_inj {a b : List UInt8} (h : str a = str b) : a = b := by
  have := congrArg (fun x => x.data.toList) h
  simpa [str] using this
def isD (b : UInt8) : Bool := decide (48 ≤ b.toNat) && decide (b.toNat ≤ 57)
theorem dig_toNat {u : Nat} (h : u < 10) : (UInt8.ofNat (48 + u)).toNat = 48 + u := by
  simp; omega
theorem dec_one {u : Nat} (h : u < 10) : decDigits u = [UInt8.ofNat (48 + u)] := by rw [decDigits, dif_pos h]
theorem dec_more {u : Nat} (h : ¬ u < 10) : decDigits u = decDigits (u / 10) ++ [UInt8.ofNat (48 + u % 10)] := by rw [decDigits, dif_neg h]
theorem dec_all (u : Nat) : ∀ b ∈ decDigits u, isD b = true := by
  induction u using Nat.strongRecOn with
  | _ u ih =>
    by_cases h : u < 10
    · intro b hb
      rw [dec_one h] at hb
      obtain rfl := List.mem_singleton.1 hb
      simp only [isD, dig_toNat h, Bool.and_eq_true, decide_eq_true_eq]; omega
    · intro b hb
      rw [dec_more h] at hb
      rcases List.mem_append.1 hb with hb | hb
      · exact ih _ (by omega) b hb
      · obtain rfl := List.mem_singleton.1 hb
        simp only [isD, dig_toNat (show u % 10 < 10 by omega), Bool.and_eq_true, decide_eq_true_eq]; omega
theorem dec_ne (u : Nat) : decDigits u ≠ [] := by
  by_cases h : u < 10
  · rw [dec_one h]; simp
  · rw [dec_more h]; simp
/-- The number that digits say. -/
def dval (l : List UInt8) : Nat := l.foldl (fun a b => a * 10 + (b.toNat - 48)) 0
theorem dval_app (l : List UInt8) (b : UInt8) : dval (l ++ [b]) = dval l * 10 + (b.toNat - 48) := by simp [dval]
theorem dval_dec (u : Nat) : dval (decDigits u) = u := by
  induction u using Nat.strongRecOn with
  | _ u ih =>
    by_cases h : u < 10
    · rw [dec_one h]
      have := dig_toNat h
      simp only [dval, List.foldl_cons, List.foldl_nil, this]; omega
    · rw [dec_more h, dval_app, ih _ (by omega), dig_toNat (by omega)]; omega
theorem dec_inj {u v : Nat} (h : decDigits u = decDigits v) : u = v := by rw [← dval_dec u, h, dval_dec v]
theorem span_one {c d : UInt8} (hc : isD c = false) (hd : isD d = false) : ∀ {a b s t : List UInt8}, (∀ x ∈ a, isD x = true) → (∀ x ∈ b, isD x = true) → a ++ c :: s = b ++ d :: t → a = b ∧ c = d ∧ s = t
  | [], [], s, t, _, _, h => by
    obtain ⟨h1, h2⟩ := List.cons.inj h
    exact ⟨rfl, h1, h2⟩
  | [], y :: b, s, t, _, hb, h => by
    obtain ⟨h1, _⟩ := List.cons.inj h
    have := hb y List.mem_cons_self
    rw [← h1, hc] at this; cases this
  | x :: a, [], s, t, ha, _, h => by
    obtain ⟨h1, _⟩ := List.cons.inj h
    have := ha x List.mem_cons_self
    rw [h1, hd] at this; cases this
  | x :: a, y :: b, s, t, ha, hb, h => by
    obtain ⟨h1, h2⟩ := List.cons.inj h
    obtain ⟨h3, h4⟩ := span_one hc hd (fun z hz => ha z (List.mem_cons_of_mem _ hz)) (fun z hz => hb z (List.mem_cons_of_mem _ hz)) h2
    exact ⟨by rw [h1, h3], h4⟩
theorem itoa_nn {n : Int} (h : 0 ≤ n) : itoa n = decDigits n.toNat := by rw [itoa, if_neg (by omega)]
theorem itoa_ng {n : Int} (h : n < 0) : itoa n = 45 :: decDigits n.natAbs := by rw [itoa, if_pos h]
theorem dec_cons (u : Nat) : ∃ b l, decDigits u = b :: l ∧ isD b = true := by
  cases h : decDigits u with
  | nil => exact absurd h (dec_ne u)
  | cons b l => exact ⟨b, l, rfl, dec_all u b (by rw [h]; exact List.mem_cons_self)⟩
/-- Two numbers, each with what is no digit behind it. -/
theorem itoa_cons {n m : Int} {c d : UInt8} {s t : List UInt8} (hc : isD c = false) (hd : isD d = false) (h : itoa n ++ c :: s = itoa m ++ d :: t) : n = m ∧ c = d ∧ s = t := by
  have h45 : isD 45 = false := by decide
  by_cases hn : n < 0 <;> by_cases hm : m < 0
  · rw [itoa_ng hn, itoa_ng hm] at h
    obtain ⟨_, h2⟩ := List.cons.inj h
    obtain ⟨h3, h4⟩ := span_one hc hd (dec_all _) (dec_all _) h2
    have := dec_inj h3
    exact ⟨by omega, h4⟩
  · rw [itoa_ng hn, itoa_nn (by omega)] at h
    obtain ⟨b, l, hb, hi⟩ := dec_cons m.toNat
    rw [hb] at h
    obtain ⟨h1, _⟩ := List.cons.inj h
    rw [← h1, h45] at hi; cases hi
  · rw [itoa_ng hm, itoa_nn (by omega)] at h
    obtain ⟨b, l, hb, hi⟩ := dec_cons n.toNat
    rw [hb] at h
    obtain ⟨h1, _⟩ := List.cons.inj h
    rw [h1, h45] at hi; cases hi
  · rw [itoa_nn (by omega), itoa_nn (by omega)] at h
    obtain ⟨h3, h4⟩ := span_one hc hd (dec_all _) (dec_all _) h
    have := dec_inj h3
    exact ⟨by omega, h4⟩
theorem itoa_inj {n m : Int} (h : itoa n = itoa m) : n = m := (itoa_cons (c := 0) (d := 0) (s := []) (t := []) (by decide) (by decide) (by rw [h])).1
/-- A letter, a number, a letter, a number. -/
def twoText (a b : UInt8) (x : Two) : List UInt8 := a :: itoa x.a ++ b :: itoa x.b
def twosText (a b : UInt8) (xs : List Two) : List UInt8 := xs.flatMap (twoText a b)
theorem twosText_cons (a b : UInt8) (x : Two) (xs : List Two) : twosText a b (x :: xs) = twoText a b x ++ twosText a b xs := rfl
theorem twosText_app (a b : UInt8) (xs ys : List Two) : twosText a b (xs ++ ys) = twosText a b xs ++ twosText a b ys := by simp [twosText]
theorem twos_head {a b c : UInt8} (ha : isD a = false) (hc : isD c = false) (xs : List Two) (s : List UInt8) : ∃ d l, twosText a b xs ++ c :: s = d :: l ∧ isD d = false := by
  cases xs with
  | nil => exact ⟨c, s, rfl, hc⟩
  | cons x xs => exact ⟨a, _, rfl, ha⟩
theorem twos_inj {a b c d : UInt8} (ha : isD a = false) (hb : isD b = false) (hc : isD c = false) (hd : isD d = false) (hac : a ≠ c) (had : a ≠ d) :
    ∀ {xs ys : List Two} {s t : List UInt8}, twosText a b xs ++ c :: s = twosText a b ys ++ d :: t → xs = ys ∧ c = d ∧ s = t
  | [], [], s, t, h => by
    obtain ⟨h1, h2⟩ := List.cons.inj h
    exact ⟨rfl, h1, h2⟩
  | [], y :: ys, s, t, h => by
    obtain ⟨h1, _⟩ := List.cons.inj h
    exact absurd h1.symm hac
  | x :: xs, [], s, t, h => by
    obtain ⟨h1, _⟩ := List.cons.inj h
    exact absurd h1 had
  | x :: xs, y :: ys, s, t, h => by
    simp only [twosText_cons, twoText, List.append_assoc, List.cons_append] at h
    obtain ⟨_, h1⟩ := List.cons.inj h
    obtain ⟨h2, _, h3⟩ := itoa_cons hb hb h1
    obtain ⟨p, l, e1, g1⟩ := twos_head (b := b) ha hc xs s
    obtain ⟨q, m, e2, g2⟩ := twos_head (b := b) ha hd ys t
    rw [e1, e2] at h3
    obtain ⟨h4, h5, h6⟩ := itoa_cons g1 g2 h3
    obtain ⟨h7, h8⟩ := twos_inj ha hb hc hd hac had (xs := xs) (ys := ys) (s := s) (t := t) (by rw [e1, e2, h5, h6])
    refine ⟨?_, h8⟩
    rw [h7]
    cases x; cases y; simp_all
/-- An entry, written. -/
def entText (e : Entry) : List UInt8 := if e.none = true then [110, 111, 110, 101] else
  itoa e.q.a ++ 46 :: (itoa e.q.b ++ 123 :: (twosText 63 47 e.run.reads ++ (twosText 33 61 e.run.puts ++ 125 :: (itoa e.run.c ++ 58 :: itoa e.run.d))))
theorem itoa_head (n : Int) : ∃ b l, itoa n = b :: l ∧ b ≠ 110 := by
  by_cases h : n < 0
  · exact ⟨45, _, itoa_ng h, by decide⟩
  · rw [itoa_nn (by omega)]
    obtain ⟨b, l, h1, h2⟩ := dec_cons n.toNat
    refine ⟨b, l, h1, ?_⟩
    rintro rfl; revert h2; decide
theorem twos_head2 {c : UInt8} (hc : isD c = false) (hne : (63 : UInt8) ≠ c) (ps : List Two) (s : List UInt8) : ∃ d l, twosText 33 61 ps ++ c :: s = d :: l ∧ isD d = false ∧ (63 : UInt8) ≠ d := by
  cases ps with
  | nil => exact ⟨c, s, rfl, hc, hne⟩
  | cons x xs => exact ⟨33, _, rfl, by decide, by decide⟩
/-- Entries with a request that are written alike (what stands behind them is no digit) are the same. -/
theorem ent_cons {x y : Entry} (hx : x.none = false) (hy : y.none = false) {c d : UInt8} {s t : List UInt8} (hc : isD c = false) (hd : isD d = false) (h : entText x ++ c :: s = entText y ++ d :: t) : x = y ∧ c = d ∧ s = t := by
  simp only [entText, hx, hy, Bool.false_eq_true, if_false, List.append_assoc, List.cons_append] at h
  obtain ⟨h1, _, h⟩ := itoa_cons (by decide) (by decide) h
  obtain ⟨h2, _, h⟩ := itoa_cons (by decide) (by decide) h
  obtain ⟨p, l, e1, g1, g2⟩ := twos_head2 (c := 125) (by decide) (by decide) x.run.puts (itoa x.run.c ++ 58 :: (itoa x.run.d ++ c :: s))
  obtain ⟨q, m, e2, g3, g4⟩ := twos_head2 (c := 125) (by decide) (by decide) y.run.puts (itoa y.run.c ++ 58 :: (itoa y.run.d ++ d :: t))
  rw [e1, e2] at h
  obtain ⟨h3, h5, h6⟩ := twos_inj (by decide) (by decide) g1 g3 g2 g4 h
  have h : twosText 33 61 x.run.puts ++ 125 :: (itoa x.run.c ++ 58 :: (itoa x.run.d ++ c :: s)) = twosText 33 61 y.run.puts ++ 125 :: (itoa y.run.c ++ 58 :: (itoa y.run.d ++ d :: t)) := by rw [e1, e2, h5, h6]
  obtain ⟨h4, _, h⟩ := twos_inj (by decide) (by decide) (by decide) (by decide) (by decide) (by decide) h
  obtain ⟨h7, _, h⟩ := itoa_cons (by decide) (by decide) h
  obtain ⟨h8, h9⟩ := itoa_cons hc hd h
  refine ⟨?_, h9⟩
  obtain ⟨xn, ⟨xa, xb⟩, ⟨xr, xp, xc, xd⟩⟩ := x
  obtain ⟨yn, ⟨ya, yb⟩, ⟨yr, yp, yc, yd⟩⟩ := y
  simp_all
theorem ent_head (x : Entry) (hx : x.none = false) : ∃ b l, entText x = b :: l ∧ b ≠ 110 := by
  obtain ⟨b, l, h1, h2⟩ := itoa_head x.q.a
  simp only [entText, hx, Bool.false_eq_true, if_false, h1, List.cons_append]
  exact ⟨_, _, rfl, h2⟩
theorem entryOk_none {x : Entry} (h : entryOk x = true) (hx : x.none = true) : x = zeroE true := by
  unfold entryOk at h
  rw [if_pos hx] at h
  exact of_decide_eq_true h
/-- Right entries are written alike exactly if they are the same. -/
theorem ent_inj {x y : Entry} (hx : entryOk x = true) (hy : entryOk y = true) : entText x = entText y ↔ x = y := by
  refine ⟨fun h => ?_, fun h => by rw [h]⟩
  cases nx : x.none <;> cases ny : y.none
  · exact (ent_cons nx ny (c := 0) (d := 0) (s := []) (t := []) (by decide) (by decide) (by rw [h])).1
  · obtain ⟨b, l, h1, h2⟩ := ent_head x nx
    rw [h1] at h
    simp only [entText, ny, if_true] at h
    exact absurd (List.cons.inj h).1 h2
  · obtain ⟨b, l, h1, h2⟩ := ent_head y ny
    rw [h1] at h
    simp only [entText, nx, if_true] at h
    exact absurd (List.cons.inj h).1.symm h2
  · rw [entryOk_none hx nx, entryOk_none hy ny]
/-- How long texts are. -/
theorem dec_len : ∀ (k u : Nat), u < 10 ^ k → 0 < k → (decDigits u).length ≤ k
  | 0, u, h, h0 => absurd h0 (by omega)
  | k + 1, u, h, _ => by
    by_cases hu : u < 10
    · rw [dec_one hu]; simp
    · rw [dec_more hu]
      have hk : 0 < k := by
        cases k with
        | zero => simp at h; omega
        | succ k => omega
      have := dec_len k (u / 10) (by rw [Nat.pow_succ] at h; omega) hk
      simp; omega
theorem itoa_len {n : Int} (h1 : -9223372036854775808 ≤ n) (h2 : n ≤ 9223372036854775807) : (itoa n).length ≤ 21 := by
  by_cases h : n < 0
  · rw [itoa_ng h]
    have := dec_len 20 n.natAbs (by have : n.natAbs ≤ 9223372036854775808 := by omega
                                    exact Nat.lt_of_le_of_lt this (by decide)) (by omega)
    simp; omega
  · rw [itoa_nn (by omega)]
    have := dec_len 20 n.toNat (by have : n.toNat ≤ 9223372036854775808 := by omega
                                   exact Nat.lt_of_le_of_lt this (by decide)) (by omega)
    omega
end Mg

/- The library's functions under this program's numbers. No condition. -/
namespace Mg
open Go Go.RowKit Go.Shelf Go.Proofs
set_option maxRecDepth 100000
set_option linter.unusedVariables false
def rho : Ren := ⟨fun x => match x with | 129 => 106 | 166 => 35 | 169 => 37 | 240 => 63 | 243 => 64 | 246 => 89 | 276 => 88 | 283 => 96 | 284 => 97 | 285 => 98 | 286 => 99 | 317 => 105 | 318 => 107 | 319 => 108 | 320 => 109 | 337 => 114 | 338 => 115 | n => n, fun x => match x with | 0 => 0 | 2 => 2 | 3 => 3 | 4 => 4 | 5 => 5 | 9 => 9 | 20 => 20 | 37 => 42 | 46 => 159 | 51 => 157 | 53 => 143 | 70 => 72 | 72 => 74 | 75 => 76 | 80 => 79 | 127 => 101 | 164 => 128 | 171 => 142 | 173 => 146 | 212 => 156 | 213 => 158 | 232 => 167 | 233 => 168 | n => n, fun x => match x with | 17 => 0 | 18 => 1 | 19 => 2 | n => n⟩
theorem lay243 : LaysM.n243 PP rho where
  mixed := by kernel_rfl
  f129 := Tryd.func106.trans (congrArg some (by kernel_rfl))
  f243 := Tryd.func64.trans (congrArg some (by kernel_rfl))
  f246 := Tryd.func89.trans (congrArg some (by kernel_rfl))
  f283 := Tryd.func96.trans (congrArg some (by kernel_rfl))
  f284 := Tryd.func97.trans (congrArg some (by kernel_rfl))
  f285 := Tryd.func98.trans (congrArg some (by kernel_rfl))
  f286 := Tryd.func99.trans (congrArg some (by kernel_rfl))
  f317 := Tryd.func105.trans (congrArg some (by kernel_rfl))
  f318 := Tryd.func107.trans (congrArg some (by kernel_rfl))
  f319 := Tryd.func108.trans (congrArg some (by kernel_rfl))
  f320 := Tryd.func109.trans (congrArg some (by kernel_rfl))
  f337 := Tryd.func114.trans (congrArg some (by kernel_rfl))
  f338 := Tryd.func115.trans (congrArg some (by kernel_rfl))
  t0 := Tryd.underlying0
  a0 := Tryd.isAgg0
  z0 := Tryd.sizeOf0
  v0 := Tryd.zeroValue0
  t2 := Tryd.underlying2
  a2 := Tryd.isAgg2
  z2 := Tryd.sizeOf2
  v2 := Tryd.zeroValue2
  t3 := Tryd.underlying3
  a3 := Tryd.isAgg3
  z3 := Tryd.sizeOf3
  v3 := Tryd.zeroValue3
  t4 := Tryd.underlying4
  a4 := Tryd.isAgg4
  z4 := Tryd.sizeOf4
  v4 := Tryd.zeroValue4
  t5 := Tryd.underlying5
  a5 := Tryd.isAgg5
  z5 := Tryd.sizeOf5
  v5 := Tryd.zeroValue5
  t9 := Tryd.underlying9
  a9 := Tryd.isAgg9
  z9 := Tryd.sizeOf9
  v9 := Tryd.zeroValue9
  t20 := Tryd.underlying20
  a20 := Tryd.isAgg20
  z20 := Tryd.sizeOf20
  v20 := Tryd.zeroValue20
  t37 := Tryd.underlying42
  a37 := Tryd.isAgg42
  z37 := Tryd.sizeOf42
  v37 := Tryd.zeroValue42
  t46 := Tryd.underlying159
  a46 := Tryd.isAgg159
  z46 := Tryd.sizeOf159
  v46 := Tryd.zeroValue159
  t51 := Tryd.underlying157
  a51 := Tryd.isAgg157
  z51 := Tryd.sizeOf157
  v51 := Tryd.zeroValue157
  t53 := Tryd.underlying143
  a53 := Tryd.isAgg143
  z53 := Tryd.sizeOf143
  v53 := Tryd.zeroValue143
  t171 := Tryd.underlying142
  a171 := Tryd.isAgg142
  z171 := Tryd.sizeOf142
  v171 := Tryd.zeroValue142
  t173 := Tryd.underlying146
  a173 := Tryd.isAgg146
  z173 := Tryd.sizeOf146
  v173 := Tryd.zeroValue146
  t212 := Tryd.underlying156
  a212 := Tryd.isAgg156
  z212 := Tryd.sizeOf156
  v212 := Tryd.zeroValue156
  t213 := Tryd.underlying158
  a213 := Tryd.isAgg158
  z213 := Tryd.sizeOf158
  t232 := Tryd.underlying167
  a232 := Tryd.isAgg167
  z232 := Tryd.sizeOf167
  v232 := Tryd.zeroValue167
  t233 := Tryd.underlying168
  a233 := Tryd.isAgg168
  z233 := Tryd.sizeOf168
  v233 := Tryd.zeroValue168
  g17 := by kernel_rfl
  g18 := by kernel_rfl
  g19 := by kernel_rfl
  i0 := by kernel_rfl
  i2 := by kernel_rfl
  i3 := by kernel_rfl
  i4 := by kernel_rfl
  i5 := by kernel_rfl
  i9 := by kernel_rfl
  i20 := by kernel_rfl
  i37 := by kernel_rfl
  i46 := by kernel_rfl
  i51 := by kernel_rfl
  i53 := by kernel_rfl
  i171 := by kernel_rfl
  i173 := by kernel_rfl
  i212 := by kernel_rfl
  i232 := by kernel_rfl
  i233 := by kernel_rfl
  m17 := by kernel_rfl
  m18 := by kernel_rfl
  m19 := by kernel_rfl
theorem lay166 : Lays.n166 PP rho where
  mixed := by kernel_rfl
  f166 := Tryd.func35.trans (congrArg some (by kernel_rfl))
  f240 := Tryd.func63.trans (congrArg some (by kernel_rfl))
  f276 := Tryd.func88.trans (congrArg some (by kernel_rfl))
  t0 := Tryd.underlying0
  a0 := Tryd.isAgg0
  z0 := Tryd.sizeOf0
  v0 := Tryd.zeroValue0
  t3 := Tryd.underlying3
  a3 := Tryd.isAgg3
  z3 := Tryd.sizeOf3
  v3 := Tryd.zeroValue3
  t4 := Tryd.underlying4
  a4 := Tryd.isAgg4
  z4 := Tryd.sizeOf4
  v4 := Tryd.zeroValue4
  t9 := Tryd.underlying9
  a9 := Tryd.isAgg9
  z9 := Tryd.sizeOf9
  v9 := Tryd.zeroValue9
  t20 := Tryd.underlying20
  a20 := Tryd.isAgg20
  z20 := Tryd.sizeOf20
  v20 := Tryd.zeroValue20
  t37 := Tryd.underlying42
  a37 := Tryd.isAgg42
  z37 := Tryd.sizeOf42
  v37 := Tryd.zeroValue42
  t70 := Tryd.underlying72
  a70 := Tryd.isAgg72
  z70 := Tryd.sizeOf72
  v70 := Tryd.zeroValue72
  t72 := Tryd.underlying74
  a72 := Tryd.isAgg74
  z72 := Tryd.sizeOf74
  v72 := Tryd.zeroValue74
  t75 := Tryd.underlying76
  a75 := Tryd.isAgg76
  z75 := Tryd.sizeOf76
  v75 := Tryd.zeroValue76
  t164 := Tryd.underlying128
  a164 := Tryd.isAgg128
  z164 := Tryd.sizeOf128
  v164 := Tryd.zeroValue128
theorem lay169 : Lays.n169 PP rho where
  mixed := by kernel_rfl
  f169 := Tryd.func37.trans (congrArg some (by kernel_rfl))
  t0 := Tryd.underlying0
  a0 := Tryd.isAgg0
  z0 := Tryd.sizeOf0
  v0 := Tryd.zeroValue0
  t3 := Tryd.underlying3
  a3 := Tryd.isAgg3
  z3 := Tryd.sizeOf3
  v3 := Tryd.zeroValue3
  t9 := Tryd.underlying9
  a9 := Tryd.isAgg9
  z9 := Tryd.sizeOf9
  v9 := Tryd.zeroValue9
  t37 := Tryd.underlying42
  a37 := Tryd.isAgg42
  z37 := Tryd.sizeOf42
  v37 := Tryd.zeroValue42
  t70 := Tryd.underlying72
  a70 := Tryd.isAgg72
  z70 := Tryd.sizeOf72
  v70 := Tryd.zeroValue72
  t72 := Tryd.underlying74
  a72 := Tryd.isAgg74
  z72 := Tryd.sizeOf74
  v72 := Tryd.zeroValue74
  t127 := Tryd.underlying101
  a127 := Tryd.isAgg101
  z127 := Tryd.sizeOf101
  v127 := Tryd.zeroValue101
theorem layX : Builder.Extra PP rho where
  sizeBuilder := by kernel_rfl
  liesBuilder := by kernel_rfl
  t5 := Tryd.underlying5
  a5 := Tryd.isAgg5
  z5 := Tryd.sizeOf5
  v5 := Tryd.zeroValue5
  infoByte := by kernel_rfl
  cellsByte := by kernel_rfl
  sizeByte := by kernel_rfl
  neB5 := by decide
theorem layB : BL PP rho := ⟨lay166, lay169, layX, ⟨_, rfl, by kernel_rfl, by kernel_rfl⟩⟩
theorem c_itoa0 (n : Int) (h0 : -9223372036854775808 ≤ n) (h1 : n ≤ 9223372036854775807) : Pure PP false 64 [.one (.sc (.int .i64 n))] (.one (.sc (.string ⟨(Lib.itoa n).toArray⟩))) :=
  Pure.ofItoa lay243 (by kernel_rfl) n h0 h1
end Mg

/- Decimals by the other side, and by the library. No condition. -/
namespace Mg
open Go Go.RowKit Go.Lib
set_option maxRecDepth 100000
set_option linter.unusedVariables false
set_option linter.unusedSimpArgs false
attribute [local irreducible] W Pure
@[reducible] def os (l : List UInt8) : MV := .one (.sc (.string (str l)))
theorem strOf_one (n : Int) : strOf [n] = str [UInt8.ofNat n.toNat] := rfl
theorem wrap_dig {u : Nat} (h : u < 10) : (IntKind.u8.wrap (IntKind.i64.wrap (48 + (u : Int)))).toNat = 48 + u := by
  rw [wrapi (by omega) (by omega)]
  unfold IntKind.wrap
  simp [IntKind.signed, IntKind.bits]
  omega
theorem tmod_nn {n : Nat} : ((n : Int).tmod 10) = ((n % 10 : Nat) : Int) := by rw [Int.tmod_eq_emod_of_nonneg (by omega)]; omega
theorem tdiv_nn {n : Nat} (h : (n : Int) ≤ 9223372036854775807) : IntKind.i64.wrap ((n : Int).tdiv 10) = ((n / 10 : Nat) : Int) := by
  rw [Int.tdiv_eq_ediv_of_nonneg (by omega), wrapi (by omega) (by omega)]; omega
theorem one_dig {u : Nat} (h : u < 10) : strOf [IntKind.u8.wrap (IntKind.i64.wrap (48 + (u : Int)))] = str [UInt8.ofNat (48 + u)] := by
  rw [strOf_one, wrap_dig h]
theorem dec_len20 {n : Nat} (h : (n : Int) ≤ 9223372036854775807) : (decDigits n).length ≤ 20 := dec_len 20 n (by
  have : n ≤ 9223372036854775807 := by omega
  exact Nat.lt_of_le_of_lt this (by decide)) (by omega)
theorem c_l15Dec0 (n : Nat) (h1 : (n : Int) ≤ 9223372036854775807) : Pure PP false 32 [oi n] (os (decDigits n)) := by
  have hl := dec_len20 h1
  refine Pure.vc [(18, .row []), (27, .row [])] TTok hmo Go.Proofs.Tryd.func32 (by kernel_rfl) rfl (by kernel_rfl) ?_
  repeat' (first | refine And.intro ?_ ?_ | exact tf | exact ft | refine tt ?_ | refine ff ?_ | exact ⟨trivial⟩ | exact sAll rfl | exact sF1 rfl | exact sBld (by repeat' (first | exact trivial | rfl | exact Nat.le_of_ble_eq_true rfl | refine And.intro ?_ ?_)) rfl | exact sBS (by repeat' (first | exact trivial | rfl | exact Nat.le_of_ble_eq_true rfl | refine And.intro ?_ ?_)) rfl rfl rfl rfl | exact sBSF (by repeat' (first | exact trivial | rfl | exact Nat.le_of_ble_eq_true rfl | refine And.intro ?_ ?_)) rfl rfl rfl rfl | exact sLe rfl | exact Chk.mk (by kernel_rfl) | exact ⟨Chk.mk (by kernel_rfl)⟩ | exact sLeEq rfl rfl | refine fun h => ?_)
  all_goals simp only [decide_eq_true_eq, decide_eq_false_iff_not, List.length_map, Bool.not_eq_true', Bool.not_eq_false', Bool.not_eq_eq_eq_not, Bool.not_true, Bool.not_false, bne_iff_ne, ne_eq, bne_eq_false_iff_eq, beq_iff_eq, beq_eq_false_iff_ne] at *
  all_goals try (exfalso; omega)
  refine W.loopC (D := Nat × List UInt8) (fun d => [(18, .row []), (27, .row [])]) TTok hmo
    (fun d => ⟨31, 0, [(0, oi d.1), (3, os d.2)], []⟩) (fun d => d.1) (fun d => (d.1 : Int) ≤ 9223372036854775807 ∧ decDigits n = decDigits d.1 ++ d.2) (n, []) [] ⟨h1, by simp⟩ ?_ ?_
  · repeat' (first | exact trivial | exact ⟨trivial⟩ | exact Side.mk rfl | exact sF1 rfl | exact Chk.mk (by kernel_rfl) | exact ⟨Chk.mk (by kernel_rfl)⟩ | refine And.intro ?_ ?_ | rfl)
  · intro d ⟨hd, he⟩
    have hl2 : (decDigits d.1 ++ d.2).length ≤ 20 := by rw [← he]; exact hl
    rw [List.length_append] at hl2
    repeat' (first | refine And.intro ?_ ?_ | exact tf | exact ft | refine tt ?_ | refine ff ?_ | exact ⟨trivial⟩ | exact sAll rfl | exact sF1 rfl | exact sBld (by repeat' (first | exact trivial | rfl | exact Nat.le_of_ble_eq_true rfl | refine And.intro ?_ ?_)) rfl | exact sBS (by repeat' (first | exact trivial | rfl | exact Nat.le_of_ble_eq_true rfl | refine And.intro ?_ ?_)) rfl rfl rfl rfl | exact sBSF (by repeat' (first | exact trivial | rfl | exact Nat.le_of_ble_eq_true rfl | refine And.intro ?_ ?_)) rfl rfl rfl rfl | exact sLe rfl | exact Chk.mk (by kernel_rfl) | exact ⟨Chk.mk (by kernel_rfl)⟩ | exact sLeEq rfl rfl | refine fun h => ?_)
    all_goals simp only [decide_eq_true_eq, decide_eq_false_iff_not, List.length_map, Bool.not_eq_true', Bool.not_eq_false', Bool.not_eq_eq_eq_not, Bool.not_true, Bool.not_false, bne_iff_ne, ne_eq, bne_eq_false_iff_eq, beq_iff_eq, beq_eq_false_iff_ne] at *
    all_goals try (exact ⟨by decide⟩)
    · rw [tmod_nn, one_dig (Nat.mod_lt _ (by decide)), str_size, str_size]
      exact ⟨by simp; omega⟩
    · refine ⟨(d.1 / 10, UInt8.ofNat (48 + d.1 % 10) :: d.2), [], by dsimp only; omega, ⟨by dsimp only; omega, ?_⟩, ?_⟩
      · rw [he, dec_more (u := d.1) (by omega)]; simp
      · repeat' (first | exact trivial | exact ⟨trivial⟩ | exact Side.mk rfl | exact sF1 rfl | exact Chk.mk (by kernel_rfl) | exact ⟨Chk.mk (by kernel_rfl)⟩ | exact ⟨tdiv_nn hd⟩ | exact ⟨(tdiv_nn hd).symm⟩ | exact ⟨by rw [tmod_nn, one_dig (Nat.mod_lt _ (by decide)), str_app]; rfl⟩ | refine And.intro ?_ ?_ | rfl)
    · have h9 : d.1 < 10 := by omega
      rw [one_dig h9, str_size, str_size]
      exact ⟨by simp; omega⟩
    · have h9 : d.1 < 10 := by omega
      rw [one_dig h9, str_app, he, dec_one h9]
      exact ⟨⟨trivial, trivial⟩, rfl, trivial⟩
theorem c_l15Dec (n : Int) (h0 : -9223372036854775808 ≤ n) (h1 : n ≤ 9223372036854775807) : Pure PP false 32 [oi n] (os (itoa n)) := by
  by_cases hn : 0 ≤ n
  · obtain ⟨k, rfl⟩ := Int.eq_ofNat_of_zero_le hn
    have := c_l15Dec0 k h1
    rwa [itoa_nn hn, Int.toNat_natCast]
  by_cases hm : n < -9223372036854775807
  · obtain rfl : n = -9223372036854775808 := by omega
    refine Pure.vc [] TTok hmo Go.Proofs.Tryd.func32 (by kernel_rfl) rfl (by kernel_rfl) ?_
    repeat' (first | refine And.intro ?_ ?_ | exact tf | exact ft | refine tt ?_ | refine ff ?_ | exact fun h => absurd (by decide) | exact ⟨trivial⟩ | exact sAll rfl | exact sF1 rfl | exact sBld (by repeat' (first | exact trivial | rfl | exact Nat.le_of_ble_eq_true rfl | refine And.intro ?_ ?_)) rfl | exact sBS (by repeat' (first | exact trivial | rfl | exact Nat.le_of_ble_eq_true rfl | refine And.intro ?_ ?_)) rfl rfl rfl rfl | exact sBSF (by repeat' (first | exact trivial | rfl | exact Nat.le_of_ble_eq_true rfl | refine And.intro ?_ ?_)) rfl rfl rfl rfl | exact sLe rfl | exact Chk.mk (by kernel_rfl) | exact ⟨Chk.mk (by kernel_rfl)⟩ | exact sLeEq rfl rfl | refine fun h => ?_)
    all_goals simp only [decide_eq_true_eq, decide_eq_false_iff_not, List.length_map, Bool.not_eq_true', Bool.not_eq_false', Bool.not_eq_eq_eq_not, Bool.not_true, Bool.not_false, bne_iff_ne, ne_eq, bne_eq_false_iff_eq, beq_iff_eq, beq_eq_false_iff_ne] at *
    have e : itoa (-9223372036854775808) = [45, 57, 50, 50, 51, 51, 55, 50, 48, 51, 54, 56, 53, 52, 55, 55, 53, 56, 48, 56] := by decide +kernel
    rw [e]
    exact ⟨⟨trivial, trivial⟩, rfl, trivial⟩
  · have hk : (n.natAbs : Int) ≤ 9223372036854775807 := by omega
    have hw : IntKind.i64.wrap (0 - n) = (n.natAbs : Int) := by rw [wrapi (by omega) (by omega)]; omega
    have hl := dec_len20 hk
    refine Pure.vc [(10, .res (os (decDigits n.natAbs)))] TTok hmo Go.Proofs.Tryd.func32 (by kernel_rfl) rfl (by kernel_rfl) ?_
    repeat' (first | refine And.intro ?_ ?_ | exact tf | exact ft | refine tt ?_ | refine ff ?_ | exact ⟨trivial⟩ | exact sAll rfl | exact sF1 rfl | exact sBld (by repeat' (first | exact trivial | rfl | exact Nat.le_of_ble_eq_true rfl | refine And.intro ?_ ?_)) rfl | exact sBS (by repeat' (first | exact trivial | rfl | exact Nat.le_of_ble_eq_true rfl | refine And.intro ?_ ?_)) rfl rfl rfl rfl | exact sBSF (by repeat' (first | exact trivial | rfl | exact Nat.le_of_ble_eq_true rfl | refine And.intro ?_ ?_)) rfl rfl rfl rfl | exact sLe rfl | exact Chk.mk (by kernel_rfl) | exact ⟨Chk.mk (by kernel_rfl)⟩ | exact sLeEq rfl rfl | refine fun h => ?_)
    all_goals simp only [decide_eq_true_eq, decide_eq_false_iff_not, List.length_map, Bool.not_eq_true', Bool.not_eq_false', Bool.not_eq_eq_eq_not, Bool.not_true, Bool.not_false, bne_iff_ne, ne_eq, bne_eq_false_iff_eq, beq_iff_eq, beq_eq_false_iff_ne] at *
    all_goals try (exfalso; omega)
    · rw [hw]
      exact ⟨⟨trivial, trivial⟩, c_l15Dec0 _ hk⟩
    · rw [str_size]
      exact ⟨by show (((1 + (decDigits n.natAbs).length : Nat)) : Int) ≤ _; omega⟩
    · rw [itoa_ng (by omega)]
      exact ⟨⟨trivial, trivial⟩, by rw [show (⟨#[45]⟩ : ByteArray) = str [45] from rfl, str_app]; rfl, trivial⟩
theorem c_intItoa (n : Int) (h0 : -9223372036854775808 ≤ n) (h1 : n ≤ 9223372036854775807) : Pure PP false 64 [oi n] (os (itoa n)) := c_itoa0 n h0 h1
theorem c_Itoa (n : Int) (h0 : -9223372036854775808 ≤ n) (h1 : n ≤ 9223372036854775807) : Pure PP false 36 [oi n] (os (itoa n)) := by
  refine Pure.vc [(4, .res (os (itoa n)))] TTok hmo Go.Proofs.Tryd.func36 (by kernel_rfl) rfl (by kernel_rfl) ?_
  repeat' (first | refine And.intro ?_ ?_ | exact tf | exact ft | refine tt ?_ | refine ff ?_ | exact ⟨trivial⟩ | exact sAll rfl | exact sF1 rfl | exact sBld (by repeat' (first | exact trivial | rfl | exact Nat.le_of_ble_eq_true rfl | refine And.intro ?_ ?_)) rfl | exact sBS (by repeat' (first | exact trivial | rfl | exact Nat.le_of_ble_eq_true rfl | refine And.intro ?_ ?_)) rfl rfl rfl rfl | exact sBSF (by repeat' (first | exact trivial | rfl | exact Nat.le_of_ble_eq_true rfl | refine And.intro ?_ ?_)) rfl rfl rfl rfl | exact sLe rfl | exact Chk.mk (by kernel_rfl) | exact ⟨Chk.mk (by kernel_rfl)⟩ | exact sLeEq rfl rfl | exact sAnd (by repeat' constructor) (c_intItoa _ h0 h1) | refine fun h => ?_)
  all_goals (refine ⟨?_⟩; simp_all)
end Mg

/- An entry, written by the other side. No condition. -/
namespace Mg
open Go Go.RowKit Go.Lib
set_option maxRecDepth 100000
set_option linter.unusedVariables false
set_option linter.unusedSimpArgs false
attribute [local irreducible] W Pure
theorem lit1 (l : List UInt8) : ByteArray.mk (Array.mk l) = str l := rfl
theorem lit2 (l : List UInt8) : ByteArray.mk (List.toArray l) = str l := rfl
def I6 (n : Int) : Prop := -9223372036854775808 ≤ n ∧ n ≤ 9223372036854775807
def Two.int (x : Two) : Prop := I6 x.a ∧ I6 x.b
structure Entry.int (e : Entry) : Prop where
  q : e.q.int
  r : ∀ x ∈ e.run.reads, x.int
  p : ∀ x ∈ e.run.puts, x.int
  c : I6 e.run.c
  d : I6 e.run.d
theorem I6.len {n : Int} (h : I6 n) : (itoa n).length ≤ 21 := itoa_len h.1 h.2
theorem Two.int0 : (default : Two).int := ⟨⟨by decide, by decide⟩, by decide, by decide⟩
theorem int_get {xs : List Two} (h : ∀ x ∈ xs, x.int) (i : Nat) : (xs.getD i default).int := by
  by_cases hi : i < xs.length
  · exact h _ (getD_mem hi)
  · rw [List.getD_eq_getElem?_getD, List.getElem?_eq_none (by omega)]; exact Two.int0
theorem twos_len {a b : UInt8} : ∀ {xs : List Two}, (∀ x ∈ xs, x.int) → (twosText a b xs).length ≤ 44 * xs.length
  | [], _ => Nat.le_refl _
  | x :: xs, h => by
    have h1 := twos_len (a := a) (b := b) fun y hy => h y (List.mem_cons_of_mem _ hy)
    have h2 := (h x List.mem_cons_self).1.len
    have h3 := (h x List.mem_cons_self).2.len
    rw [twosText_cons]
    simp only [twoText, List.length_append, List.length_cons]
    omega
theorem twos_take {a b : UInt8} {xs : List Two} (h : ∀ x ∈ xs, x.int) (i : Nat) : (twosText a b (xs.take i)).length ≤ 44 * xs.length := by
  have := twos_len (a := a) (b := b) (xs := xs.take i) fun x hx => h x (List.mem_of_mem_take hx)
  rw [List.length_take] at this; omega
theorem twos_step {a b : UInt8} {xs : List Two} {i : Nat} (h : i < xs.length) : twosText a b (xs.take (i + 1)) = twosText a b (xs.take i) ++ twoText a b (xs.getD i default) := by
  rw [List.take_succ_eq_append_getElem h, twosText_app, getD_get h]
  simp [twosText]
def entHead (e : Entry) : List UInt8 := itoa e.q.a ++ [46] ++ itoa e.q.b ++ [123]
theorem ent_eq {e : Entry} (h : e.none = false) : entText e = entHead e ++ twosText 63 47 e.run.reads ++ twosText 33 61 e.run.puts ++ [125] ++ itoa e.run.c ++ [58] ++ itoa e.run.d := by
  simp [entText, h, entHead]
theorem two_eq (a b : UInt8) (x : Two) : [a] ++ itoa x.a ++ [b] ++ itoa x.b = twoText a b x := by simp [twoText]
set_option maxHeartbeats 4000000 in
theorem c_spec_MsgEntry (e : Entry) (he : e.int) (ho : e.ok lim) : Pure PP false 10 [.agg e.cells] (os (entText e)) := by
  have hr0 : e.run.reads.length ≤ 1048576 := ho.1
  have hp0 : e.run.puts.length ≤ 1048576 := ho.2
  have l1 := he.q.1.len
  have l2 := he.q.2.len
  have l3 := he.c.len
  have l4 := he.d.len
  have g1 := fun i => twos_take (a := 63) (b := 47) he.r i
  have g2 := fun i => twos_take (a := 33) (b := 61) he.p i
  have g3 := twos_len (a := 63) (b := 47) he.r
  refine Pure.vc [(11, .res (os (itoa e.q.a))), (16, .res (os (itoa e.q.b))), (82, .res (os (itoa e.run.c))), (88, .res (os (itoa e.run.d))), (940012, .row [i6 13])] TTok hmo Go.Proofs.Tryd.func10 (by kernel_rfl) rfl (by kernel_rfl) ?_
  repeat' (first | refine And.intro ?_ ?_ | exact tf | exact ft | refine tt ?_ | refine ff ?_ | exact ⟨trivial⟩ | exact sAll rfl | exact sF1 rfl | exact sBld (by repeat' (first | exact trivial | rfl | exact Nat.le_of_ble_eq_true rfl | refine And.intro ?_ ?_)) rfl | exact sBS (by repeat' (first | exact trivial | rfl | exact Nat.le_of_ble_eq_true rfl | refine And.intro ?_ ?_)) rfl rfl rfl rfl | exact sBSF (by repeat' (first | exact trivial | rfl | exact Nat.le_of_ble_eq_true rfl | refine And.intro ?_ ?_)) rfl rfl rfl rfl | exact sLe rfl | exact Chk.mk (by kernel_rfl) | exact ⟨Chk.mk (by kernel_rfl)⟩ | exact sLeEq rfl rfl | exact sAnd (by repeat' constructor) (c_l15Dec _ he.q.1.1 he.q.1.2) | exact sAnd (by repeat' constructor) (c_l15Dec _ he.q.2.1 he.q.2.2) | refine fun h => ?_)
  all_goals simp only [decide_eq_true_eq, decide_eq_false_iff_not, List.length_map, Bool.not_eq_true', Bool.not_eq_false', Bool.not_eq_eq_eq_not, Bool.not_true, Bool.not_false, bne_iff_ne, ne_eq, bne_eq_false_iff_eq, beq_iff_eq, beq_eq_false_iff_ne] at *
  all_goals try simp only [lit1, lit2, str_app] at *
  all_goals try (refine ⟨?_⟩; simp only [str_size, List.length_append, List.length_cons, List.length_nil]; omega)
  all_goals try (rw [show entText e = [110, 111, 110, 101] by simp [entText, ‹e.none = true›]]; exact ⟨⟨trivial, trivial⟩, rfl, trivial⟩)
  have hn : e.none = false := by simpa using h
  refine W.loopC (D := Nat) (fun i => [(33, .row (e.run.reads.getD i default).cells), (43, .row (e.run.reads.getD i default).cells), (36, .res (os (itoa (e.run.reads.getD i default).a))), (46, .res (os (itoa (e.run.reads.getD i default).b))), (940007, .row [i6 21])]) TTok hmo
    (fun i => ⟨90, 1, [(1, .one (.ptr 0 0 0)), (3, os (entHead e ++ twosText 63 47 (e.run.reads.take i))), (4, oi i)], [(0, .box (e.cells.map MC.toA))]⟩) (fun i => e.run.reads.length - i) (fun i => i ≤ e.run.reads.length) 0 [] (Nat.zero_le _) ?_ ?_
  · repeat' (first | exact trivial | exact ⟨trivial⟩ | exact Side.mk rfl | exact sF1 rfl | exact Chk.mk (by kernel_rfl) | exact ⟨Chk.mk (by kernel_rfl)⟩ | exact ⟨by simp [entHead, twosText]⟩ | refine And.intro ?_ ?_ | rfl)
  · intro i hi
    have hg := int_get he.r i
    have k1 := hg.1.len
    have k2 := hg.2.len
    have k3 := g1 i
    repeat' (first | refine And.intro ?_ ?_ | exact tf | exact ft | refine tt ?_ | refine ff ?_ | exact ⟨trivial⟩ | exact sAll rfl | exact sF1 rfl | exact sBld (by repeat' (first | exact trivial | rfl | exact Nat.le_of_ble_eq_true rfl | refine And.intro ?_ ?_)) rfl | exact sBS (by repeat' (first | exact trivial | rfl | exact Nat.le_of_ble_eq_true rfl | refine And.intro ?_ ?_)) rfl rfl rfl rfl | exact sBSF (by repeat' (first | exact trivial | rfl | exact Nat.le_of_ble_eq_true rfl | refine And.intro ?_ ?_)) rfl rfl rfl rfl | exact sLe rfl | exact Chk.mk (by kernel_rfl) | exact ⟨Chk.mk (by kernel_rfl)⟩ | exact sLeEq rfl rfl | exact sAnd (by repeat' constructor) (c_l15Dec _ hg.1.1 hg.1.2) | exact sAnd (by repeat' constructor) (c_l15Dec _ hg.2.1 hg.2.2) | refine fun h => ?_)
    all_goals simp only [decide_eq_true_eq, decide_eq_false_iff_not, List.length_map, Bool.not_eq_true', Bool.not_eq_false', Bool.not_eq_eq_eq_not, Bool.not_true, Bool.not_false, bne_iff_ne, ne_eq, bne_eq_false_iff_eq, beq_iff_eq, beq_eq_false_iff_ne] at *
    all_goals try (exact sRow (by omega) (row_at e.run.reads _ (by omega)) rfl)
    all_goals try (refine ⟨?_⟩; simp only [lit1, lit2, str_app, str_size, List.length_append, List.length_cons, List.length_nil, entHead]; omega)
    · refine ⟨i + 1, [], by omega, by omega, ?_⟩
      repeat' (first | exact trivial | exact ⟨trivial⟩ | exact Side.mk rfl | exact sF1 rfl | exact Chk.mk (by kernel_rfl) | exact ⟨Chk.mk (by kernel_rfl)⟩ | exact ⟨by rw [wrapi] <;> omega⟩ | exact ⟨by simp only [lit1, lit2, str_app]; rw [twos_step (by omega), ← two_eq]; simp only [List.append_assoc]⟩ | refine And.intro ?_ ?_ | rfl)
    · have hfull : twosText 63 47 (e.run.reads.take i) = twosText 63 47 e.run.reads := by rw [List.take_of_length_le (by omega)]
      rw [hfull]
      clear hfull k1 k2 k3 hg h hi g1
      refine W.loopC (D := Nat) (fun i => [(62, .row (e.run.puts.getD i default).cells), (72, .row (e.run.puts.getD i default).cells), (65, .res (os (itoa (e.run.puts.getD i default).a))), (75, .res (os (itoa (e.run.puts.getD i default).b))), (940011, .row [i6 21])]) TTok hmo
        (fun i => ⟨90, 1, [(1, .one (.ptr 0 0 0)), (3, os (entHead e ++ twosText 63 47 e.run.reads ++ twosText 33 61 (e.run.puts.take i))), (5, oi i)], [(0, .box (e.cells.map MC.toA))]⟩) (fun i => e.run.puts.length - i) (fun i => i ≤ e.run.puts.length) 0 [] (Nat.zero_le _) ?_ ?_
      · repeat' (first | exact trivial | exact ⟨trivial⟩ | exact Side.mk rfl | exact sF1 rfl | exact Chk.mk (by kernel_rfl) | exact ⟨Chk.mk (by kernel_rfl)⟩ | exact ⟨by simp [twosText]⟩ | refine And.intro ?_ ?_ | rfl)
      · intro i hi
        have hg := int_get he.p i
        have k1 := hg.1.len
        have k2 := hg.2.len
        have k3 := g2 i
        repeat' (first | refine And.intro ?_ ?_ | exact tf | exact ft | refine tt ?_ | refine ff ?_ | exact ⟨trivial⟩ | exact sAll rfl | exact sF1 rfl | exact sBld (by repeat' (first | exact trivial | rfl | exact Nat.le_of_ble_eq_true rfl | refine And.intro ?_ ?_)) rfl | exact sBS (by repeat' (first | exact trivial | rfl | exact Nat.le_of_ble_eq_true rfl | refine And.intro ?_ ?_)) rfl rfl rfl rfl | exact sBSF (by repeat' (first | exact trivial | rfl | exact Nat.le_of_ble_eq_true rfl | refine And.intro ?_ ?_)) rfl rfl rfl rfl | exact sLe rfl | exact Chk.mk (by kernel_rfl) | exact ⟨Chk.mk (by kernel_rfl)⟩ | exact sLeEq rfl rfl | exact sAnd (by repeat' constructor) (c_l15Dec _ hg.1.1 hg.1.2) | exact sAnd (by repeat' constructor) (c_l15Dec _ hg.2.1 hg.2.2) | exact sAnd (by repeat' constructor) (c_l15Dec _ he.c.1 he.c.2) | exact sAnd (by repeat' constructor) (c_l15Dec _ he.d.1 he.d.2) | refine fun h => ?_)
        all_goals simp only [decide_eq_true_eq, decide_eq_false_iff_not, List.length_map, Bool.not_eq_true', Bool.not_eq_false', Bool.not_eq_eq_eq_not, Bool.not_true, Bool.not_false, bne_iff_ne, ne_eq, bne_eq_false_iff_eq, beq_iff_eq, beq_eq_false_iff_ne] at *
        all_goals try (exact sRow (by omega) (row_at e.run.puts _ (by omega)) rfl)
        all_goals try (refine ⟨?_⟩; simp only [lit1, lit2, str_app, str_size, List.length_append, List.length_cons, List.length_nil, entHead]; omega)
        · refine ⟨i + 1, [], by omega, by omega, ?_⟩
          repeat' (first | exact trivial | exact ⟨trivial⟩ | exact Side.mk rfl | exact sF1 rfl | exact Chk.mk (by kernel_rfl) | exact ⟨Chk.mk (by kernel_rfl)⟩ | exact ⟨by rw [wrapi] <;> omega⟩ | exact ⟨by simp only [lit1, lit2, str_app]; rw [twos_step (by omega), ← two_eq]; simp only [List.append_assoc]⟩ | refine And.intro ?_ ?_ | rfl)
        · rw [List.take_of_length_le (by omega), ent_eq hn]
          exact ⟨⟨trivial, trivial⟩, by simp only [lit1, lit2, str_app], trivial⟩
end Mg

/- An entry, written by the program. No condition. -/
namespace Mg
open Go Go.RowKit Go.Lib
set_option maxRecDepth 100000
set_option linter.unusedVariables false
set_option linter.unusedSimpArgs false
attribute [local irreducible] W WB Pure
theorem str_list (l : List UInt8) : (str l).data.toList = l := rfl
set_option maxHeartbeats 4000000 in
theorem c_impl_MsgEntry (e : Entry) (he : e.int) (ho : e.ok lim) : Pure PP false 12 [.agg e.cells] (os (entText e)) := by
  have hr0 : e.run.reads.length ≤ 1048576 := ho.1
  have hp0 : e.run.puts.length ≤ 1048576 := ho.2
  have l1 := he.q.1.len
  have l2 := he.q.2.len
  have l3 := he.c.len
  have l4 := he.d.len
  have g1 := fun i => twos_take (a := 63) (b := 47) he.r i
  have g2 := fun i => twos_take (a := 33) (b := 61) he.p i
  have g3 := twos_len (a := 63) (b := 47) he.r
  have g4 := twos_len (a := 33) (b := 61) he.p
  refine Pure.vcB (fw := 35) (fs := 37) (ft := 74) [(13, .res (os (itoa e.q.a))), (18, .res (os (itoa e.q.b))), (63, .res (os (itoa e.run.c))), (69, .res (os (itoa e.run.d)))] TTok hmo layB rfl rfl rfl Go.Proofs.Tryd.func12 (by kernel_rfl) rfl (by kernel_rfl) ?_
  intro A U
  repeat' (first | refine And.intro ?_ ?_ | exact trivial | exact rfl | exact Side.mk (Eq.refl (_ : Nat)) | exact tf | exact ft | refine tt ?_ | refine ff ?_ | exact ⟨trivial⟩ | exact sAll rfl | exact sF1 rfl | exact sBld (by repeat' (first | exact trivial | rfl | exact Nat.le_of_ble_eq_true rfl | refine And.intro ?_ ?_)) rfl | exact sBS (by repeat' (first | exact trivial | rfl | exact Nat.le_of_ble_eq_true rfl | refine And.intro ?_ ?_)) rfl rfl rfl rfl | exact sBSF (by repeat' (first | exact trivial | rfl | exact Nat.le_of_ble_eq_true rfl | refine And.intro ?_ ?_)) rfl rfl rfl rfl | exact sLe rfl | exact Chk.mk (by kernel_rfl) | exact ⟨Chk.mk (by kernel_rfl)⟩ | exact sLeEq rfl rfl | exact sAnd (by repeat' constructor) (c_Itoa _ he.q.1.1 he.q.1.2) | exact sAnd (by repeat' constructor) (c_Itoa _ he.q.2.1 he.q.2.2) | refine fun h => ?_)
  all_goals try simp only [decide_eq_true_eq, decide_eq_false_iff_not, List.length_map, Bool.not_eq_true', Bool.not_eq_false', Bool.not_eq_eq_eq_not, Bool.not_true, Bool.not_false, bne_iff_ne, ne_eq, bne_eq_false_iff_eq, beq_iff_eq, beq_eq_false_iff_ne] at *
  all_goals try simp only [lit1, lit2, str_app] at *
  all_goals try (refine ⟨?_⟩; simp only [str_size, List.length_append, List.length_cons, List.length_nil]; omega)
  all_goals try (rw [show entText e = [110, 111, 110, 101] by simp [entText, ‹e.none = true›]]; exact ⟨⟨trivial, trivial⟩, rfl, trivial⟩)
  have hn : e.none = false := ‹e.none = false›
  rename Nat => nb
  refine WB.loopC (fw := 35) (fs := 37) (ft := 74) (D := Nat) (fun i => [(28, .row (e.run.reads.getD i default).cells), (32, .res (os (itoa (e.run.reads.getD i default).a))), (37, .res (os (itoa (e.run.reads.getD i default).b)))]) TTok hmo layB rfl rfl rfl
    (fun i => ⟨73, 1, [(1, .one (.ptr 0 0 0)), (3, .one (.sc (.pointer (some ⟨nb, 0, none⟩)))), (24, .one (.tr false A (U 0 3) (e.run.reads.map Two.cells))), (25, oi e.run.reads.length), (26, oi i)], [(0, .box [bo e.none, i6 e.q.a, i6 e.q.b, .tr false A (U 0 3) (e.run.reads.map Two.cells), .tr false A (U 0 4) (e.run.puts.map Two.cells), i6 e.run.c, i6 e.run.d])]⟩)
    (fun i => some (nb, entHead e ++ twosText 63 47 (e.run.reads.take i))) (fun i => e.run.reads.length - i) (fun i => i ≤ e.run.reads.length) 0 [] ⟨Nat.zero_le _, ?_⟩ (fun _ => rfl) ?_ ?_
  · exact ⟨by simp [entHead, twosText, str_list]⟩
  · repeat' (first | exact trivial | exact ⟨trivial⟩ | exact Side.mk rfl | exact sF1 rfl | exact Chk.mk (by kernel_rfl) | exact ⟨Chk.mk (by kernel_rfl)⟩ | refine And.intro ?_ ?_ | rfl)
  · intro i hi
    have hg := int_get he.r i
    have k1 := hg.1.len
    have k2 := hg.2.len
    have k3 := g1 i
    repeat' (first | refine And.intro ?_ ?_ | exact trivial | exact rfl | exact Side.mk (Eq.refl (_ : Nat)) | exact tf | exact ft | refine tt ?_ | refine ff ?_ | exact ⟨trivial⟩ | exact sAll rfl | exact sF1 rfl | exact sBld (by repeat' (first | exact trivial | rfl | exact Nat.le_of_ble_eq_true rfl | refine And.intro ?_ ?_)) rfl | exact sBS (by repeat' (first | exact trivial | rfl | exact Nat.le_of_ble_eq_true rfl | refine And.intro ?_ ?_)) rfl rfl rfl rfl | exact sBSF (by repeat' (first | exact trivial | rfl | exact Nat.le_of_ble_eq_true rfl | refine And.intro ?_ ?_)) rfl rfl rfl rfl | exact sLe rfl | exact Chk.mk (by kernel_rfl) | exact ⟨Chk.mk (by kernel_rfl)⟩ | exact sLeEq rfl rfl | exact sAnd (by repeat' constructor) (c_Itoa _ hg.1.1 hg.1.2) | exact sAnd (by repeat' constructor) (c_Itoa _ hg.2.1 hg.2.2) | refine fun h => ?_)
    all_goals try simp only [decide_eq_true_eq, decide_eq_false_iff_not, List.length_map, Bool.not_eq_true', Bool.not_eq_false', Bool.not_eq_eq_eq_not, Bool.not_true, Bool.not_false, bne_iff_ne, ne_eq, bne_eq_false_iff_eq, beq_iff_eq, beq_eq_false_iff_ne] at *
    all_goals try (exact sRow (by omega) (row_at e.run.reads _ (by omega)) rfl)
    all_goals try (refine ⟨?_⟩; simp only [lit1, lit2, str_app, str_size, List.length_append, List.length_cons, List.length_nil, entHead]; omega)
    · refine ⟨i + 1, [], by omega, ⟨by omega, ⟨?_⟩⟩, ?_⟩
      · simp only [lit1, lit2, str_app, str_list]; rw [twos_step (by omega), ← two_eq]; simp only [List.append_assoc]
      · repeat' (first | exact trivial | exact ⟨trivial⟩ | exact Side.mk rfl | exact sF1 rfl | exact Chk.mk (by kernel_rfl) | exact ⟨Chk.mk (by kernel_rfl)⟩ | exact ⟨by rw [wrapi] <;> omega⟩ | refine And.intro ?_ ?_ | rfl)
    · have hfull : twosText 63 47 (e.run.reads.take i) = twosText 63 47 e.run.reads := by rw [List.take_of_length_le (by omega)]
      rw [hfull]
      clear hfull k1 k2 k3 hg h hi g1
      refine WB.loopC (fw := 35) (fs := 37) (ft := 74) (D := Nat) (fun i => [(47, .row (e.run.puts.getD i default).cells), (51, .res (os (itoa (e.run.puts.getD i default).a))), (56, .res (os (itoa (e.run.puts.getD i default).b)))]) TTok hmo layB rfl rfl rfl
        (fun i => ⟨73, 1, [(1, .one (.ptr 0 0 0)), (3, .one (.sc (.pointer (some ⟨nb, 0, none⟩)))), (43, .one (.tr false A (U 0 4) (e.run.puts.map Two.cells))), (44, oi e.run.puts.length), (45, oi i)], [(0, .box [bo e.none, i6 e.q.a, i6 e.q.b, .tr false A (U 0 3) (e.run.reads.map Two.cells), .tr false A (U 0 4) (e.run.puts.map Two.cells), i6 e.run.c, i6 e.run.d])]⟩)
        (fun i => some (nb, entHead e ++ twosText 63 47 e.run.reads ++ twosText 33 61 (e.run.puts.take i))) (fun i => e.run.puts.length - i) (fun i => i ≤ e.run.puts.length) 0 [] ⟨Nat.zero_le _, ?_⟩ (fun _ => rfl) ?_ ?_
      · exact ⟨by simp [twosText]⟩
      · repeat' (first | exact trivial | exact ⟨trivial⟩ | exact Side.mk rfl | exact sF1 rfl | exact Chk.mk (by kernel_rfl) | exact ⟨Chk.mk (by kernel_rfl)⟩ | refine And.intro ?_ ?_ | rfl)
      · intro i hi
        have hg := int_get he.p i
        have k1 := hg.1.len
        have k2 := hg.2.len
        have k3 := g2 i
        repeat' (first | refine And.intro ?_ ?_ | exact trivial | exact rfl | exact Side.mk (Eq.refl (_ : Nat)) | exact tf | exact ft | refine tt ?_ | refine ff ?_ | exact ⟨trivial⟩ | exact sAll rfl | exact sF1 rfl | exact sBld (by repeat' (first | exact trivial | rfl | exact Nat.le_of_ble_eq_true rfl | refine And.intro ?_ ?_)) rfl | exact sBS (by repeat' (first | exact trivial | rfl | exact Nat.le_of_ble_eq_true rfl | refine And.intro ?_ ?_)) rfl rfl rfl rfl | exact sBSF (by repeat' (first | exact trivial | rfl | exact Nat.le_of_ble_eq_true rfl | refine And.intro ?_ ?_)) rfl rfl rfl rfl | exact sLe rfl | exact Chk.mk (by kernel_rfl) | exact ⟨Chk.mk (by kernel_rfl)⟩ | exact sLeEq rfl rfl | exact sAnd (by repeat' constructor) (c_Itoa _ hg.1.1 hg.1.2) | exact sAnd (by repeat' constructor) (c_Itoa _ hg.2.1 hg.2.2) | exact sAnd (by repeat' constructor) (c_Itoa _ he.c.1 he.c.2) | exact sAnd (by repeat' constructor) (c_Itoa _ he.d.1 he.d.2) | refine fun h => ?_)
        all_goals try simp only [decide_eq_true_eq, decide_eq_false_iff_not, List.length_map, Bool.not_eq_true', Bool.not_eq_false', Bool.not_eq_eq_eq_not, Bool.not_true, Bool.not_false, bne_iff_ne, ne_eq, bne_eq_false_iff_eq, beq_iff_eq, beq_eq_false_iff_ne] at *
        all_goals try (exact sRow (by omega) (row_at e.run.puts _ (by omega)) rfl)
        all_goals try (refine ⟨?_⟩; simp only [lit1, lit2, str_app, str_size, List.length_append, List.length_cons, List.length_nil, entHead]; omega)
        · refine ⟨i + 1, [], by omega, ⟨by omega, ⟨?_⟩⟩, ?_⟩
          · simp only [lit1, lit2, str_app, str_list]; rw [twos_step (by omega), ← two_eq]; simp only [List.append_assoc]
          · repeat' (first | exact trivial | exact ⟨trivial⟩ | exact Side.mk rfl | exact sF1 rfl | exact Chk.mk (by kernel_rfl) | exact ⟨Chk.mk (by kernel_rfl)⟩ | exact ⟨by rw [wrapi] <;> omega⟩ | refine And.intro ?_ ?_ | rfl)
        · rw [List.take_of_length_le (by omega), ent_eq hn]
          exact ⟨⟨trivial, trivial⟩, by simp only [lit1, lit2, str_app, str_list, List.append_assoc], trivial⟩
end Mg
