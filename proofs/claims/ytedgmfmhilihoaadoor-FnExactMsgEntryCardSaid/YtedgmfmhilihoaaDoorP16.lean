/- Parts of the abstract state logic and of the walks, one behind the other: TX4, R1H, TX5, R1R, TX6. No condition. -/
import Derived.Test.YtedgmfmhilihoaaDoorP15
import Derived.Test.YtedgmfmhilihoaaDoorP13
import Derived.Test.YtedgmfmhilihoaaDoorP12
/- An entry, written by the program. No condition. -/
namespace Mg
open Go Go.RowKit Go.Lib
set_option maxRecDepth 100000
set_option linter.unusedVariables false
set_option linter.unusedSimpArgs false
attribute [local irreducible] W WB Pure
theorem str_list (l : List UInt8) : (str l).data.toList = l := rfl
set_option maxHeartbeats 4000000 in
theorem c_impl_MsgEntry (e : Entry) (he : e.int) (ho : e.ok lim) : Pure PP false 12 [.agg e.cells] (os (entText e)) := by
  have hr0 : e.run.reads.length ≤ 1048576 := ho.1
  have hp0 : e.run.puts.length ≤ 1048576 := ho.2
  have l1 := he.q.1.len
  have l2 := he.q.2.len
  have l3 := he.c.len
  have l4 := he.d.len
  have g1 := fun i => twos_take (a := 63) (b := 47) he.r i
  have g2 := fun i => twos_take (a := 33) (b := 61) he.p i
  have g3 := twos_len (a := 63) (b := 47) he.r
  have g4 := twos_len (a := 33) (b := 61) he.p
  refine Pure.vcB (fw := 35) (fs := 37) (ft := 74) [(13, .res (os (itoa e.q.a))), (18, .res (os (itoa e.q.b))), (63, .res (os (itoa e.run.c))), (69, .res (os (itoa e.run.d)))] TTok hmo layB rfl rfl rfl Go.Proofs.Tryd.func12 (by kernel_rfl) rfl (by kernel_rfl) ?_
  intro A U
  repeat' (first | refine And.intro ?_ ?_ | exact trivial | exact rfl | exact Side.mk (Eq.refl (_ : Nat)) | exact tf | exact ft | refine tt ?_ | refine ff ?_ | exact ⟨trivial⟩ | exact sAll rfl | exact sF1 rfl | exact sBld (by repeat' (first | exact trivial | rfl | exact Nat.le_of_ble_eq_true rfl | refine And.intro ?_ ?_)) rfl | exact sBS (by repeat' (first | exact trivial | rfl | exact Nat.le_of_ble_eq_true rfl | refine And.intro ?_ ?_)) rfl rfl rfl rfl | exact sBSF (by repeat' (first | exact trivial | rfl | exact Nat.le_of_ble_eq_true rfl | refine And.intro ?_ ?_)) rfl rfl rfl rfl | exact sLe rfl | exact Chk.mk (by kernel_rfl) | exact ⟨Chk.mk (by kernel_rfl)⟩ | exact sLeEq rfl rfl | exact sAnd (by repeat' constructor) (c_Itoa _ he.q.1.1 he.q.1.2) | exact sAnd (by repeat' constructor) (c_Itoa _ he.q.2.1 he.q.2.2) | refine fun h => ?_)
  all_goals try simp only [decide_eq_true_eq, decide_eq_false_iff_not, List.length_map, Bool.not_eq_true', Bool.not_eq_false', Bool.not_eq_eq_eq_not, Bool.not_true, Bool.not_false, bne_iff_ne, ne_eq, bne_eq_false_iff_eq, beq_iff_eq, beq_eq_false_iff_ne] at *
  all_goals try simp only [lit1, lit2, str_app] at *
  all_goals try (refine ⟨?_⟩; simp only [str_size, List.length_append, List.length_cons, List.length_nil]; omega)
  all_goals try (rw [show entText e = [110, 111, 110, 101] by simp [entText, ‹e.none = true›]]; exact ⟨⟨trivial, trivial⟩, rfl, trivial⟩)
  have hn : e.none = false := ‹e.none = false›
  rename Nat => nb
  refine WB.loopC (fw := 35) (fs := 37) (ft := 74) (D := Nat) (fun i => [(28, .row (e.run.reads.getD i default).cells), (32, .res (os (itoa (e.run.reads.getD i default).a))), (37, .res (os (itoa (e.run.reads.getD i default).b)))]) TTok hmo layB rfl rfl rfl
    (fun i => ⟨73, 1, [(1, .one (.ptr 0 0 0)), (3, .one (.sc (.pointer (some ⟨nb, 0, none⟩)))), (24, .one (.tr false A (U 0 3) (e.run.reads.map Two.cells))), (25, oi e.run.reads.length), (26, oi i)], [(0, .box [bo e.none, i6 e.q.a, i6 e.q.b, .tr false A (U 0 3) (e.run.reads.map Two.cells), .tr false A (U 0 4) (e.run.puts.map Two.cells), i6 e.run.c, i6 e.run.d])]⟩)
    (fun i => some (nb, entHead e ++ twosText 63 47 (e.run.reads.take i))) (fun i => e.run.reads.length - i) (fun i => i ≤ e.run.reads.length) 0 [] ⟨Nat.zero_le _, ?_⟩ (fun _ => rfl) ?_ ?_
  · exact ⟨by simp [entHead, twosText, str_list]⟩
  · repeat' (first | exact trivial | exact ⟨trivial⟩ | exact Side.mk rfl | exact sF1 rfl | exact Chk.mk (by kernel_rfl) | exact ⟨Chk.mk (by kernel_rfl)⟩ | refine And.intro ?_ ?_ | rfl)
  · intro i hi
    have hg := int_get he.r i
    have k1 := hg.1.len
    have k2 := hg.2.len
    have k3 := g1 i
    repeat' (first | refine And.intro ?_ ?_ | exact trivial | exact rfl | exact Side.mk (Eq.refl (_ : Nat)) | exact tf | exact ft | refine tt ?_ | refine ff ?_ | exact ⟨trivial⟩ | exact sAll rfl | exact sF1 rfl | exact sBld (by repeat' (first | exact trivial | rfl | exact Nat.le_of_ble_eq_true rfl | refine And.intro ?_ ?_)) rfl | exact sBS (by repeat' (first | exact trivial | rfl | exact Nat.le_of_ble_eq_true rfl | refine And.intro ?_ ?_)) rfl rfl rfl rfl | exact sBSF (by repeat' (first | exact trivial | rfl | exact Nat.le_of_ble_eq_true rfl | refine And.intro ?_ ?_)) rfl rfl rfl rfl | exact sLe rfl | exact Chk.mk (by kernel_rfl) | exact ⟨Chk.mk (by kernel_rfl)⟩ | exact sLeEq rfl rfl | exact sAnd (by repeat' constructor) (c_Itoa _ hg.1.1 hg.1.2) | exact sAnd (by repeat' constructor) (c_Itoa _ hg.2.1 hg.2.2) | refine fun h => ?_)
    all_goals try simp only [decide_eq_true_eq, decide_eq_false_iff_not, List.length_map, Bool.not_eq_true', Bool.not_eq_false', Bool.not_eq_eq_eq_not, Bool.not_true, Bool.not_false, bne_iff_ne, ne_eq, bne_eq_false_iff_eq, beq_iff_eq, beq_eq_false_iff_ne] at *
    all_goals try (exact sRow (by omega) (row_at e.run.reads _ (by omega)) rfl)
    all_goals try (refine ⟨?_⟩; simp only [lit1, lit2, str_app, str_size, List.length_append, List.length_cons, List.length_nil, entHead]; omega)
    · refine ⟨i + 1, [], by omega, ⟨by omega, ⟨?_⟩⟩, ?_⟩
      · simp only [lit1, lit2, str_app, str_list]; rw [twos_step (by omega), ← two_eq]; simp only [List.append_assoc]
      · repeat' (first | exact trivial | exact ⟨trivial⟩ | exact Side.mk rfl | exact sF1 rfl | exact Chk.mk (by kernel_rfl) | exact ⟨Chk.mk (by kernel_rfl)⟩ | exact ⟨by rw [wrapi] <;> omega⟩ | refine And.intro ?_ ?_ | rfl)
    · have hfull : twosText 63 47 (e.run.reads.take i) = twosText 63 47 e.run.reads := by rw [List.take_of_length_le (by omega)]
      rw [hfull]
      clear hfull k1 k2 k3 hg h hi g1
      refine WB.loopC (fw := 35) (fs := 37) (ft := 74) (D := Nat) (fun i => [(47, .row (e.run.puts.getD i default).cells), (51, .res (os (itoa (e.run.puts.getD i default).a))), (56, .res (os (itoa (e.run.puts.getD i default).b)))]) TTok hmo layB rfl rfl rfl
        (fun i => ⟨73, 1, [(1, .one (.ptr 0 0 0)), (3, .one (.sc (.pointer (some ⟨nb, 0, none⟩)))), (43, .one (.tr false A (U 0 4) (e.run.puts.map Two.cells))), (44, oi e.run.puts.length), (45, oi i)], [(0, .box [bo e.none, i6 e.q.a, i6 e.q.b, .tr false A (U 0 3) (e.run.reads.map Two.cells), .tr false A (U 0 4) (e.run.puts.map Two.cells), i6 e.run.c, i6 e.run.d])]⟩)
        (fun i => some (nb, entHead e ++ twosText 63 47 e.run.reads ++ twosText 33 61 (e.run.puts.take i))) (fun i => e.run.puts.length - i) (fun i => i ≤ e.run.puts.length) 0 [] ⟨Nat.zero_le _, ?_⟩ (fun _ => rfl) ?_ ?_
      · exact ⟨by simp [twosText]⟩
      · repeat' (first | exact trivial | exact ⟨trivial⟩ | exact Side.mk rfl | exact sF1 rfl | exact Chk.mk (by kernel_rfl) | exact ⟨Chk.mk (by kernel_rfl)⟩ | refine And.intro ?_ ?_ | rfl)
      · intro i hi
        have hg := int_get he.p i
        have k1 := hg.1.len
        have k2 := hg.2.len
        have k3 := g2 i
        repeat' (first | refine And.intro ?_ ?_ | exact trivial | exact rfl | exact Side.mk (Eq.refl (_ : Nat)) | exact tf | exact ft | refine tt ?_ | refine ff ?_ | exact ⟨trivial⟩ | exact sAll rfl | exact sF1 rfl | exact sBld (by repeat' (first | exact trivial | rfl | exact Nat.le_of_ble_eq_true rfl | refine And.intro ?_ ?_)) rfl | exact sBS (by repeat' (first | exact trivial | rfl | exact Nat.le_of_ble_eq_true rfl | refine And.intro ?_ ?_)) rfl rfl rfl rfl | exact sBSF (by repeat' (first | exact trivial | rfl | exact Nat.le_of_ble_eq_true rfl | refine And.intro ?_ ?_)) rfl rfl rfl rfl | exact sLe rfl | exact Chk.mk (by kernel_rfl) | exact ⟨Chk.mk (by kernel_rfl)⟩ | exact sLeEq rfl rfl | exact sAnd (by repeat' constructor) (c_Itoa _ hg.1.1 hg.1.2) | exact sAnd (by repeat' constructor) (c_Itoa _ hg.2.1 hg.2.2) | exact sAnd (by repeat' constructor) (c_Itoa _ he.c.1 he.c.2) | exact sAnd (by repeat' constructor) (c_Itoa _ he.d.1 he.d.2) | refine fun h => ?_)
        all_goals try simp only [decide_eq_true_eq, decide_eq_false_iff_not, List.length_map, Bool.not_eq_true', Bool.not_eq_false', Bool.not_eq_eq_eq_not, Bool.not_true, Bool.not_false, bne_iff_ne, ne_eq, bne_eq_false_iff_eq, beq_iff_eq, beq_eq_false_iff_ne] at *
        all_goals try (exact sRow (by omega) (row_at e.run.puts _ (by omega)) rfl)
        all_goals try (refine ⟨?_⟩; simp only [lit1, lit2, str_app, str_size, List.length_append, List.length_cons, List.length_nil, entHead]; omega)
        · refine ⟨i + 1, [], by omega, ⟨by omega, ⟨?_⟩⟩, ?_⟩
          · simp only [lit1, lit2, str_app, str_list]; rw [twos_step (by omega), ← two_eq]; simp only [List.append_assoc]
          · repeat' (first | exact trivial | exact ⟨trivial⟩ | exact Side.mk rfl | exact sF1 rfl | exact Chk.mk (by kernel_rfl) | exact ⟨Chk.mk (by kernel_rfl)⟩ | exact ⟨by rw [wrapi] <;> omega⟩ | refine And.intro ?_ ?_ | rfl)
        · rw [List.take_of_length_le (by omega), ent_eq hn]
          exact ⟨⟨trivial, trivial⟩, by simp only [lit1, lit2, str_app, str_list, List.append_assoc], trivial⟩
end Mg

/- What is left bounds what is there. No condition. -/
namespace Mg
open Go Go.RowKit
set_option maxRecDepth 100000
set_option linter.unusedVariables false
set_option linter.unusedSimpArgs false
attribute [local irreducible] W Pure

theorem sg_pos {a : Int} (h : 0 ≤ sg a) : 0 ≤ a := by unfold sg at h; split at h <;> omega
theorem sg_eq {a : Int} (h : 0 ≤ a) : sg a = a := by unfold sg; rw [if_neg (by omega)]
theorem thenI_pos {a : Int} {f : Int → Int} (h : 0 ≤ thenI a f) : 0 ≤ a ∧ 0 ≤ f a := by
  unfold thenI at h; split at h
  · omega
  · exact ⟨by omega, h⟩
theorem szT_ok {n : Nat} {l : Int} (h : 0 ≤ szT n l) : (n : Int) ≤ l ∧ szT n l ≤ l := by
  have := sg_pos h
  unfold szT
  rw [sg_eq this]; omega
theorem szRun_ok {x : Run} {l : Int} (h1 : l ≤ lim) (h : 0 ≤ szRun x l) : x.ok lim := by
  obtain ⟨ha, hb⟩ := thenI_pos h
  have h2 := szT_ok ha
  have h3 := szT_ok (sg_pos hb)
  exact ⟨by omega, by omega⟩
theorem szVote_ok {x : Vote} {l : Int} (h1 : l ≤ lim) (h : 0 ≤ szVote x l) : x.ok lim := szRun_ok h1 (sg_pos (sg_pos h))
theorem szL_ok {xs : List Vote} : ∀ {l : Int}, 0 ≤ l → l ≤ lim → 0 ≤ szL szVote xs l → ∀ v ∈ xs, v.ok lim := by
  induction xs with
  | nil => intro l _ _ _ v hv; cases hv
  | cons x xs ih =>
    intro l h0 h1 h v hv
    obtain ⟨ha, hb⟩ := thenI_pos h
    rcases List.mem_cons.1 hv with rfl | hv
    · exact szVote_ok h1 ha
    · have := szVote_le x h0
      exact ih ha (by omega) hb v hv
theorem szAcc_ok {x : Acc} {l : Int} (h1 : l ≤ lim) (h : 0 ≤ szAcc x l) : x.ok lim := by
  obtain ⟨ha, hb⟩ := thenI_pos (sg_pos h)
  exact ⟨by omega, szL_ok ha (by omega) hb⟩
theorem szL_le {xs : List Vote} : ∀ {l : Int}, 0 ≤ l → szL szVote xs l ≤ l := by
  induction xs with
  | nil => intro l h; exact Int.le_refl _
  | cons x xs ih =>
    intro l h
    have := szVote_le x h
    simp only [szL, thenI]
    split
    · omega
    · have := ih (l := szVote x l) (by omega); omega
theorem szAcc_le {x : Acc} {l : Int} (h : 0 ≤ l) : szAcc x l ≤ l := by
  refine sg_le ?_ h
  unfold szVoteS thenI
  split
  · omega
  · have := szL_le (xs := x.votes) (l := l - x.votes.length) (by omega); omega

end Mg

/- The law of entries' texts, walked. No condition. -/
namespace Mg
open Go Go.RowKit Go.Lib
set_option maxRecDepth 100000
set_option linter.unusedVariables false
set_option linter.unusedSimpArgs false
attribute [local irreducible] W Pure
set_option maxHeartbeats 4000000 in
theorem c_FnExactMsgEntry (e : Entry) (ha : e.ok maxLen) (hi : e.int) : Pure PP false 3 [.agg e.cells] (ob true) := by
  by_cases h1 : szEntry e 1048576 < 0
  · refine Pure.vc [(9, .res (oi (szEntry e 1048576)))] TTok hmo Go.Proofs.Tryd.func3 (by kernel_rfl) rfl (by kernel_rfl) ?_
    repeat' (first | refine And.intro ?_ ?_ | exact tf | exact ft | refine tt ?_ | refine ff ?_ | exact fun h => absurd h1 (of_decide_eq_false h) | exact ⟨trivial⟩ | exact sAll rfl | exact sF1 rfl | exact sBld (by repeat' (first | exact trivial | rfl | exact Nat.le_of_ble_eq_true rfl | refine And.intro ?_ ?_)) rfl | exact sBS (by repeat' (first | exact trivial | rfl | exact Nat.le_of_ble_eq_true rfl | refine And.intro ?_ ?_)) rfl rfl rfl rfl | exact sBSF (by repeat' (first | exact trivial | rfl | exact Nat.le_of_ble_eq_true rfl | refine And.intro ?_ ?_)) rfl rfl rfl rfl | exact sLe rfl | exact Chk.mk (by kernel_rfl) | exact ⟨Chk.mk (by kernel_rfl)⟩ | exact sLeEq rfl rfl | exact sAnd (by repeat' constructor) (c_szEntry _ _ (by decide) (by decide) ha) | refine fun h => ?_)
    all_goals (refine ⟨?_⟩; simp)
  have oa : e.ok lim := szRun_ok (l := 1048576) (by decide) (sg_pos (by unfold szEntry at h1; omega))
  refine Pure.vc [(9, .res (oi (szEntry e 1048576))), (13, .res (.agg e.cells)), (14, .res (os (entText e))), (16, .res (.agg e.cells)), (18, .res (os (entText e))), (24, .res (.agg e.cells)), (25, .res (ob (decide (e = e))))] TTok hmo Go.Proofs.Tryd.func3 (by kernel_rfl) rfl (by kernel_rfl) ?_
  repeat' (first | refine And.intro ?_ ?_ | exact tf | exact ft | refine tt ?_ | refine ff ?_ | exact fun h => absurd (of_decide_eq_true h) h1 | exact ⟨trivial⟩ | exact sAll rfl | exact sF1 rfl | exact sBld (by repeat' (first | exact trivial | rfl | exact Nat.le_of_ble_eq_true rfl | refine And.intro ?_ ?_)) rfl | exact sBS (by repeat' (first | exact trivial | rfl | exact Nat.le_of_ble_eq_true rfl | refine And.intro ?_ ?_)) rfl rfl rfl rfl | exact sBSF (by repeat' (first | exact trivial | rfl | exact Nat.le_of_ble_eq_true rfl | refine And.intro ?_ ?_)) rfl rfl rfl rfl | exact sLe rfl | exact Chk.mk (by kernel_rfl) | exact ⟨Chk.mk (by kernel_rfl)⟩ | exact sLeEq rfl rfl | exact sAnd (by repeat' constructor) (c_szEntry _ _ (by decide) (by decide) ha) | exact sAnd (by repeat' constructor) (c_toEntry _ oa) | exact sAnd (by repeat' constructor) (c_spec_MsgEntry _ hi oa) | exact sAnd (by repeat' constructor) (c_impl_MsgEntry _ hi oa) | exact sAnd (by repeat' constructor) (c_eqEntry _ _ oa oa) | refine fun h => ?_)
  all_goals (refine ⟨?_⟩; simp_all)
end Mg

/- What the row's arguments read as. No condition. -/
namespace Mg
open Go Go.RowKit
set_option maxRecDepth 100000
set_option linter.unusedVariables false

theorem TTlay : LOk TT := fun t i h => by
  have h1 : (tyL.all fun q => q.2.lay TT) = true := by kernel_rfl
  have h2 : (t, i) ∈ tyL := look_mem h
  exact List.all_eq_true.1 h1 _ h2

theorem fit_two {n t : Nat} {cs : List MC} {i : TI} (h : fit TT n t cs) (ht : TT t = some i) (hk : i.k = .struct [(0, 3), (1, 3)]) : ∃ x : Two, cs = x.cells := by
  obtain ⟨n, a, r, rfl, ha, b, r', rfl, hb, rfl⟩ := fit_struct h ht hk
  obtain ⟨x, rfl, _⟩ := fit_int ha (i := ⟨1, 8, .int .i64, [.int .i64]⟩) rfl rfl
  obtain ⟨y, rfl, _⟩ := fit_int hb (i := ⟨1, 8, .int .i64, [.int .i64]⟩) rfl rfl
  exact ⟨⟨x, y⟩, rfl⟩
theorem fit_twos {n t e : Nat} {cs : List MC} {i ie : TI} (h : fit TT n t cs) (ht : TT t = some i) (hk : i.k = .slice e) (he : TT e = some ie) (hke : ie.k = .struct [(0, 3), (1, 3)]) : ∃ xs : List Two, cs = [.fz (xs.map Two.cells)] ∧ xs.length ≤ maxLen := by
  obtain ⟨rows, rfl, hl, hr⟩ := fit_slice h ht hk
  obtain ⟨xs, rfl, _⟩ := rows_data (c := Two.cells) (p := fun _ => True) fun r hr' => by
    obtain ⟨n, hn⟩ := hr r hr'
    obtain ⟨x, hx⟩ := fit_two hn he hke
    exact ⟨x, hx, trivial⟩
  exact ⟨xs, rfl, by simpa using hl⟩
theorem fit_run {n : Nat} {cs : List MC} (h : fit TT n 27 cs) : ∃ x : Run, cs = x.cells ∧ x.ok maxLen := by
  obtain ⟨n, a, r, rfl, ha, b, r', rfl, hb, c, r'', rfl, hc, d, r3, rfl, hd, rfl⟩ := fit_struct h (i := ⟨4, 64, .struct [(0, 24), (1, 25), (2, 3), (3, 3)], [.nil, .nil, .int .i64, .int .i64]⟩) rfl rfl
  obtain ⟨xs, rfl, hx⟩ := fit_twos ha (i := ⟨1, 24, .slice 125, [.nil]⟩) (ie := ⟨2, 16, .struct [(0, 3), (1, 3)], [.int .i64, .int .i64]⟩) rfl rfl rfl rfl
  obtain ⟨ys, rfl, hy⟩ := fit_twos hb (i := ⟨1, 24, .slice 127, [.nil]⟩) (ie := ⟨2, 16, .struct [(0, 3), (1, 3)], [.int .i64, .int .i64]⟩) rfl rfl rfl rfl
  obtain ⟨x, rfl, _⟩ := fit_int hc (i := ⟨1, 8, .int .i64, [.int .i64]⟩) rfl rfl
  obtain ⟨y, rfl, _⟩ := fit_int hd (i := ⟨1, 8, .int .i64, [.int .i64]⟩) rfl rfl
  exact ⟨⟨xs, ys, x, y⟩, rfl, hx, hy⟩
theorem fit_entry {n : Nat} {cs : List MC} (h : fit TT n 29 cs) : ∃ x : Entry, cs = x.cells ∧ x.ok maxLen := by
  obtain ⟨n, a, r, rfl, ha, b, r', rfl, hb, c, r'', rfl, hc, rfl⟩ := fit_struct h (i := ⟨7, 88, .struct [(0, 4), (1, 23), (3, 27)], [.bool, .int .i64, .int .i64, .nil, .nil, .int .i64, .int .i64]⟩) rfl rfl
  obtain ⟨x, rfl⟩ := fit_bool ha (i := ⟨1, 1, .bool, [.bool]⟩) rfl rfl
  obtain ⟨q, rfl⟩ := fit_two hb (i := ⟨2, 16, .struct [(0, 3), (1, 3)], [.int .i64, .int .i64]⟩) rfl rfl
  obtain ⟨y, rfl, hy⟩ := fit_run hc
  exact ⟨⟨x, q, y⟩, by simp [Entry.cells], hy⟩
theorem fit_vote {n : Nat} {cs : List MC} (h : fit TT n 121 cs) : ∃ x : Vote, cs = x.cells ∧ x.ok maxLen := by
  obtain ⟨n, a, r, rfl, ha, b, r', rfl, hb, rfl⟩ := fit_struct h (i := ⟨8, 96, .struct [(0, 3), (1, 29)], [.int .i64, .bool, .int .i64, .int .i64, .nil, .nil, .int .i64, .int .i64]⟩) rfl rfl
  obtain ⟨x, rfl, _⟩ := fit_int ha (i := ⟨1, 8, .int .i64, [.int .i64]⟩) rfl rfl
  obtain ⟨y, rfl, hy⟩ := fit_entry hb
  exact ⟨⟨x, y⟩, by simp [Vote.cells], hy⟩
theorem fit_votes {n : Nat} {cs : List MC} (h : fit TT n 55 cs) : ∃ xs : List Vote, cs = [.fz (xs.map Vote.cells)] ∧ VotesOk maxLen xs := by
  obtain ⟨rows, rfl, hl, hr⟩ := fit_slice h (i := ⟨1, 24, .slice 121, [.nil]⟩) rfl rfl
  obtain ⟨xs, rfl, hv⟩ := rows_data (c := Vote.cells) (p := fun v => v.ok maxLen) fun r hr' => by
    obtain ⟨n, hn⟩ := hr r hr'
    exact fit_vote hn
  exact ⟨xs, rfl, by simpa using hl, hv⟩
end Mg

/- What an entry reads as, with its numbers' bounds. No condition. -/
namespace Mg
open Go Go.RowKit
set_option maxRecDepth 100000
set_option linter.unusedVariables false
theorem I6_of {m : Int} (h1 : IntKind.i64.min ≤ m) (h2 : m ≤ IntKind.i64.max) : I6 m := by
  simp [IntKind.min, IntKind.max, IntKind.signed, IntKind.bits] at h1 h2
  exact ⟨by omega, by omega⟩
theorem fit_twoI {n t : Nat} {cs : List MC} {i : TI} (h : fit TT n t cs) (ht : TT t = some i) (hk : i.k = .struct [(0, 3), (1, 3)]) : ∃ x : Two, cs = x.cells ∧ x.int := by
  obtain ⟨n, a, r, rfl, ha, b, r', rfl, hb, rfl⟩ := fit_struct h ht hk
  obtain ⟨x, rfl, h1, h2⟩ := fit_int ha (i := ⟨1, 8, .int .i64, [.int .i64]⟩) rfl rfl
  obtain ⟨y, rfl, h3, h4⟩ := fit_int hb (i := ⟨1, 8, .int .i64, [.int .i64]⟩) rfl rfl
  exact ⟨⟨x, y⟩, rfl, I6_of h1 h2, I6_of h3 h4⟩
theorem fit_twosI {n t e : Nat} {cs : List MC} {i ie : TI} (h : fit TT n t cs) (ht : TT t = some i) (hk : i.k = .slice e) (he : TT e = some ie) (hke : ie.k = .struct [(0, 3), (1, 3)]) : ∃ xs : List Two, cs = [.fz (xs.map Two.cells)] ∧ xs.length ≤ maxLen ∧ ∀ x ∈ xs, x.int := by
  obtain ⟨rows, rfl, hl, hr⟩ := fit_slice h ht hk
  obtain ⟨xs, rfl, hx⟩ := rows_data (c := Two.cells) (p := fun x => x.int) fun r hr' => by
    obtain ⟨n, hn⟩ := hr r hr'
    exact fit_twoI hn he hke
  exact ⟨xs, rfl, by simpa using hl, hx⟩
theorem fit_entryI {n : Nat} {cs : List MC} (h : fit TT n 29 cs) : ∃ x : Entry, cs = x.cells ∧ x.ok maxLen ∧ x.int := by
  obtain ⟨n, a, r, rfl, ha, b, r', rfl, hb, c, r'', rfl, hc, rfl⟩ := fit_struct h (i := ⟨7, 88, .struct [(0, 4), (1, 23), (3, 27)], [.bool, .int .i64, .int .i64, .nil, .nil, .int .i64, .int .i64]⟩) rfl rfl
  obtain ⟨x, rfl⟩ := fit_bool ha (i := ⟨1, 1, .bool, [.bool]⟩) rfl rfl
  obtain ⟨q, rfl, hq⟩ := fit_twoI hb (i := ⟨2, 16, .struct [(0, 3), (1, 3)], [.int .i64, .int .i64]⟩) rfl rfl
  obtain ⟨n, a, r, rfl, ha, b, r', rfl, hb, c, r'', rfl, hc2, d, r3, rfl, hd, rfl⟩ := fit_struct hc (i := ⟨4, 64, .struct [(0, 24), (1, 25), (2, 3), (3, 3)], [.nil, .nil, .int .i64, .int .i64]⟩) rfl rfl
  obtain ⟨xs, rfl, hx, hxi⟩ := fit_twosI ha (i := ⟨1, 24, .slice 125, [.nil]⟩) (ie := ⟨2, 16, .struct [(0, 3), (1, 3)], [.int .i64, .int .i64]⟩) rfl rfl rfl rfl
  obtain ⟨ys, rfl, hy, hyi⟩ := fit_twosI hb (i := ⟨1, 24, .slice 127, [.nil]⟩) (ie := ⟨2, 16, .struct [(0, 3), (1, 3)], [.int .i64, .int .i64]⟩) rfl rfl rfl rfl
  obtain ⟨u, rfl, h1, h2⟩ := fit_int hc2 (i := ⟨1, 8, .int .i64, [.int .i64]⟩) rfl rfl
  obtain ⟨v, rfl, h3, h4⟩ := fit_int hd (i := ⟨1, 8, .int .i64, [.int .i64]⟩) rfl rfl
  exact ⟨⟨x, q, ⟨xs, ys, u, v⟩⟩, by simp [Entry.cells, Run.cells], ⟨hx, hy⟩, hq, hxi, hyi, I6_of h1 h2, I6_of h3 h4⟩
end Mg
