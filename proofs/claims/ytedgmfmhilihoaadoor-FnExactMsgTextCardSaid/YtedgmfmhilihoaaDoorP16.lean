/- Parts of the abstract state logic and of the walks, one behind the other: TX4, R1H, R1M, M1, TX7, TX8, TX9, TXE. No condition. -/
import Derived.Test.YtedgmfmhilihoaaDoorP15
import Derived.Test.YtedgmfmhilihoaaDoorP13
/- An entry, written by the program. No condition. -/
namespace Mg
open Go Go.RowKit Go.Lib
set_option maxRecDepth 100000
set_option linter.unusedVariables false
set_option linter.unusedSimpArgs false
attribute [local irreducible] W WB Pure
theorem str_list (l : List UInt8) : (str l).data.toList = l := rfl
set_option maxHeartbeats 4000000 in
theorem c_impl_MsgEntry (e : Entry) (he : e.int) (ho : e.ok lim) : Pure PP false 12 [.agg e.cells] (os (entText e)) := by
  have hr0 : e.run.reads.length ≤ 1048576 := ho.1
  have hp0 : e.run.puts.length ≤ 1048576 := ho.2
  have l1 := he.q.1.len
  have l2 := he.q.2.len
  have l3 := he.c.len
  have l4 := he.d.len
  have g1 := fun i => twos_take (a := 63) (b := 47) he.r i
  have g2 := fun i => twos_take (a := 33) (b := 61) he.p i
  have g3 := twos_len (a := 63) (b := 47) he.r
  have g4 := twos_len (a := 33) (b := 61) he.p
  refine Pure.vcB (fw := 35) (fs := 37) (ft := 74) [(13, .res (os (itoa e.q.a))), (18, .res (os (itoa e.q.b))), (63, .res (os (itoa e.run.c))), (69, .res (os (itoa e.run.d)))] TTok hmo layB rfl rfl rfl Go.Proofs.Tryd.func12 (by kernel_rfl) rfl (by kernel_rfl) ?_
  intro A U
  repeat' (first | refine And.intro ?_ ?_ | exact trivial | exact rfl | exact Side.mk (Eq.refl (_ : Nat)) | exact tf | exact ft | refine tt ?_ | refine ff ?_ | exact ⟨trivial⟩ | exact sAll rfl | exact sF1 rfl | exact sBld (by repeat' (first | exact trivial | rfl | exact Nat.le_of_ble_eq_true rfl | refine And.intro ?_ ?_)) rfl | exact sBS (by repeat' (first | exact trivial | rfl | exact Nat.le_of_ble_eq_true rfl | refine And.intro ?_ ?_)) rfl rfl rfl rfl | exact sBSF (by repeat' (first | exact trivial | rfl | exact Nat.le_of_ble_eq_true rfl | refine And.intro ?_ ?_)) rfl rfl rfl rfl | exact sLe rfl | exact Chk.mk (by kernel_rfl) | exact ⟨Chk.mk (by kernel_rfl)⟩ | exact sLeEq rfl rfl | exact sAnd (by repeat' constructor) (c_Itoa _ he.q.1.1 he.q.1.2) | exact sAnd (by repeat' constructor) (c_Itoa _ he.q.2.1 he.q.2.2) | refine fun h => ?_)
  all_goals try simp only [decide_eq_true_eq, decide_eq_false_iff_not, List.length_map, Bool.not_eq_true', Bool.not_eq_false', Bool.not_eq_eq_eq_not, Bool.not_true, Bool.not_false, bne_iff_ne, ne_eq, bne_eq_false_iff_eq, beq_iff_eq, beq_eq_false_iff_ne] at *
  all_goals try simp only [lit1, lit2, str_app] at *
  all_goals try (refine ⟨?_⟩; simp only [str_size, List.length_append, List.length_cons, List.length_nil]; omega)
  all_goals try (rw [show entText e = [110, 111, 110, 101] by simp [entText, ‹e.none = true›]]; exact ⟨⟨trivial, trivial⟩, rfl, trivial⟩)
  have hn : e.none = false := ‹e.none = false›
  rename Nat => nb
  refine WB.loopC (fw := 35) (fs := 37) (ft := 74) (D := Nat) (fun i => [(28, .row (e.run.reads.getD i default).cells), (32, .res (os (itoa (e.run.reads.getD i default).a))), (37, .res (os (itoa (e.run.reads.getD i default).b)))]) TTok hmo layB rfl rfl rfl
    (fun i => ⟨73, 1, [(1, .one (.ptr 0 0 0)), (3, .one (.sc (.pointer (some ⟨nb, 0, none⟩)))), (24, .one (.tr false A (U 0 3) (e.run.reads.map Two.cells))), (25, oi e.run.reads.length), (26, oi i)], [(0, .box [bo e.none, i6 e.q.a, i6 e.q.b, .tr false A (U 0 3) (e.run.reads.map Two.cells), .tr false A (U 0 4) (e.run.puts.map Two.cells), i6 e.run.c, i6 e.run.d])]⟩)
    (fun i => some (nb, entHead e ++ twosText 63 47 (e.run.reads.take i))) (fun i => e.run.reads.length - i) (fun i => i ≤ e.run.reads.length) 0 [] ⟨Nat.zero_le _, ?_⟩ (fun _ => rfl) ?_ ?_
  · exact ⟨by simp [entHead, twosText, str_list]⟩
  · repeat' (first | exact trivial | exact ⟨trivial⟩ | exact Side.mk rfl | exact sF1 rfl | exact Chk.mk (by kernel_rfl) | exact ⟨Chk.mk (by kernel_rfl)⟩ | refine And.intro ?_ ?_ | rfl)
  · intro i hi
    have hg := int_get he.r i
    have k1 := hg.1.len
    have k2 := hg.2.len
    have k3 := g1 i
    repeat' (first | refine And.intro ?_ ?_ | exact trivial | exact rfl | exact Side.mk (Eq.refl (_ : Nat)) | exact tf | exact ft | refine tt ?_ | refine ff ?_ | exact ⟨trivial⟩ | exact sAll rfl | exact sF1 rfl | exact sBld (by repeat' (first | exact trivial | rfl | exact Nat.le_of_ble_eq_true rfl | refine And.intro ?_ ?_)) rfl | exact sBS (by repeat' (first | exact trivial | rfl | exact Nat.le_of_ble_eq_true rfl | refine And.intro ?_ ?_)) rfl rfl rfl rfl | exact sBSF (by repeat' (first | exact trivial | rfl | exact Nat.le_of_ble_eq_true rfl | refine And.intro ?_ ?_)) rfl rfl rfl rfl | exact sLe rfl | exact Chk.mk (by kernel_rfl) | exact ⟨Chk.mk (by kernel_rfl)⟩ | exact sLeEq rfl rfl | exact sAnd (by repeat' constructor) (c_Itoa _ hg.1.1 hg.1.2) | exact sAnd (by repeat' constructor) (c_Itoa _ hg.2.1 hg.2.2) | refine fun h => ?_)
    all_goals try simp only [decide_eq_true_eq, decide_eq_false_iff_not, List.length_map, Bool.not_eq_true', Bool.not_eq_false', Bool.not_eq_eq_eq_not, Bool.not_true, Bool.not_false, bne_iff_ne, ne_eq, bne_eq_false_iff_eq, beq_iff_eq, beq_eq_false_iff_ne] at *
    all_goals try (exact sRow (by omega) (row_at e.run.reads _ (by omega)) rfl)
    all_goals try (refine ⟨?_⟩; simp only [lit1, lit2, str_app, str_size, List.length_append, List.length_cons, List.length_nil, entHead]; omega)
    · refine ⟨i + 1, [], by omega, ⟨by omega, ⟨?_⟩⟩, ?_⟩
      · simp only [lit1, lit2, str_app, str_list]; rw [twos_step (by omega), ← two_eq]; simp only [List.append_assoc]
      · repeat' (first | exact trivial | exact ⟨trivial⟩ | exact Side.mk rfl | exact sF1 rfl | exact Chk.mk (by kernel_rfl) | exact ⟨Chk.mk (by kernel_rfl)⟩ | exact ⟨by rw [wrapi] <;> omega⟩ | refine And.intro ?_ ?_ | rfl)
    · have hfull : twosText 63 47 (e.run.reads.take i) = twosText 63 47 e.run.reads := by rw [List.take_of_length_le (by omega)]
      rw [hfull]
      clear hfull k1 k2 k3 hg h hi g1
      refine WB.loopC (fw := 35) (fs := 37) (ft := 74) (D := Nat) (fun i => [(47, .row (e.run.puts.getD i default).cells), (51, .res (os (itoa (e.run.puts.getD i default).a))), (56, .res (os (itoa (e.run.puts.getD i default).b)))]) TTok hmo layB rfl rfl rfl
        (fun i => ⟨73, 1, [(1, .one (.ptr 0 0 0)), (3, .one (.sc (.pointer (some ⟨nb, 0, none⟩)))), (43, .one (.tr false A (U 0 4) (e.run.puts.map Two.cells))), (44, oi e.run.puts.length), (45, oi i)], [(0, .box [bo e.none, i6 e.q.a, i6 e.q.b, .tr false A (U 0 3) (e.run.reads.map Two.cells), .tr false A (U 0 4) (e.run.puts.map Two.cells), i6 e.run.c, i6 e.run.d])]⟩)
        (fun i => some (nb, entHead e ++ twosText 63 47 e.run.reads ++ twosText 33 61 (e.run.puts.take i))) (fun i => e.run.puts.length - i) (fun i => i ≤ e.run.puts.length) 0 [] ⟨Nat.zero_le _, ?_⟩ (fun _ => rfl) ?_ ?_
      · exact ⟨by simp [twosText]⟩
      · repeat' (first | exact trivial | exact ⟨trivial⟩ | exact Side.mk rfl | exact sF1 rfl | exact Chk.mk (by kernel_rfl) | exact ⟨Chk.mk (by kernel_rfl)⟩ | refine And.intro ?_ ?_ | rfl)
      · intro i hi
        have hg := int_get he.p i
        have k1 := hg.1.len
        have k2 := hg.2.len
        have k3 := g2 i
        repeat' (first | refine And.intro ?_ ?_ | exact trivial | exact rfl | exact Side.mk (Eq.refl (_ : Nat)) | exact tf | exact ft | refine tt ?_ | refine ff ?_ | exact ⟨trivial⟩ | exact sAll rfl | exact sF1 rfl | exact sBld (by repeat' (first | exact trivial | rfl | exact Nat.le_of_ble_eq_true rfl | refine And.intro ?_ ?_)) rfl | exact sBS (by repeat' (first | exact trivial | rfl | exact Nat.le_of_ble_eq_true rfl | refine And.intro ?_ ?_)) rfl rfl rfl rfl | exact sBSF (by repeat' (first | exact trivial | rfl | exact Nat.le_of_ble_eq_true rfl | refine And.intro ?_ ?_)) rfl rfl rfl rfl | exact sLe rfl | exact Chk.mk (by kernel_rfl) | exact ⟨Chk.mk (by kernel_rfl)⟩ | exact sLeEq rfl rfl | exact sAnd (by repeat' constructor) (c_Itoa _ hg.1.1 hg.1.2) | exact sAnd (by repeat' constructor) (c_Itoa _ hg.2.1 hg.2.2) | exact sAnd (by repeat' constructor) (c_Itoa _ he.c.1 he.c.2) | exact sAnd (by repeat' constructor) (c_Itoa _ he.d.1 he.d.2) | refine fun h => ?_)
        all_goals try simp only [decide_eq_true_eq, decide_eq_false_iff_not, List.length_map, Bool.not_eq_true', Bool.not_eq_false', Bool.not_eq_eq_eq_not, Bool.not_true, Bool.not_false, bne_iff_ne, ne_eq, bne_eq_false_iff_eq, beq_iff_eq, beq_eq_false_iff_ne] at *
        all_goals try (exact sRow (by omega) (row_at e.run.puts _ (by omega)) rfl)
        all_goals try (refine ⟨?_⟩; simp only [lit1, lit2, str_app, str_size, List.length_append, List.length_cons, List.length_nil, entHead]; omega)
        · refine ⟨i + 1, [], by omega, ⟨by omega, ⟨?_⟩⟩, ?_⟩
          · simp only [lit1, lit2, str_app, str_list]; rw [twos_step (by omega), ← two_eq]; simp only [List.append_assoc]
          · repeat' (first | exact trivial | exact ⟨trivial⟩ | exact Side.mk rfl | exact sF1 rfl | exact Chk.mk (by kernel_rfl) | exact ⟨Chk.mk (by kernel_rfl)⟩ | exact ⟨by rw [wrapi] <;> omega⟩ | refine And.intro ?_ ?_ | rfl)
        · rw [List.take_of_length_le (by omega), ent_eq hn]
          exact ⟨⟨trivial, trivial⟩, by simp only [lit1, lit2, str_app, str_list, List.append_assoc], trivial⟩
end Mg

/- What is left bounds what is there. No condition. -/
namespace Mg
open Go Go.RowKit
set_option maxRecDepth 100000
set_option linter.unusedVariables false
set_option linter.unusedSimpArgs false
attribute [local irreducible] W Pure

theorem sg_pos {a : Int} (h : 0 ≤ sg a) : 0 ≤ a := by unfold sg at h; split at h <;> omega
theorem sg_eq {a : Int} (h : 0 ≤ a) : sg a = a := by unfold sg; rw [if_neg (by omega)]
theorem thenI_pos {a : Int} {f : Int → Int} (h : 0 ≤ thenI a f) : 0 ≤ a ∧ 0 ≤ f a := by
  unfold thenI at h; split at h
  · omega
  · exact ⟨by omega, h⟩
theorem szT_ok {n : Nat} {l : Int} (h : 0 ≤ szT n l) : (n : Int) ≤ l ∧ szT n l ≤ l := by
  have := sg_pos h
  unfold szT
  rw [sg_eq this]; omega
theorem szRun_ok {x : Run} {l : Int} (h1 : l ≤ lim) (h : 0 ≤ szRun x l) : x.ok lim := by
  obtain ⟨ha, hb⟩ := thenI_pos h
  have h2 := szT_ok ha
  have h3 := szT_ok (sg_pos hb)
  exact ⟨by omega, by omega⟩
theorem szVote_ok {x : Vote} {l : Int} (h1 : l ≤ lim) (h : 0 ≤ szVote x l) : x.ok lim := szRun_ok h1 (sg_pos (sg_pos h))
theorem szL_ok {xs : List Vote} : ∀ {l : Int}, 0 ≤ l → l ≤ lim → 0 ≤ szL szVote xs l → ∀ v ∈ xs, v.ok lim := by
  induction xs with
  | nil => intro l _ _ _ v hv; cases hv
  | cons x xs ih =>
    intro l h0 h1 h v hv
    obtain ⟨ha, hb⟩ := thenI_pos h
    rcases List.mem_cons.1 hv with rfl | hv
    · exact szVote_ok h1 ha
    · have := szVote_le x h0
      exact ih ha (by omega) hb v hv
theorem szAcc_ok {x : Acc} {l : Int} (h1 : l ≤ lim) (h : 0 ≤ szAcc x l) : x.ok lim := by
  obtain ⟨ha, hb⟩ := thenI_pos (sg_pos h)
  exact ⟨by omega, szL_ok ha (by omega) hb⟩
theorem szL_le {xs : List Vote} : ∀ {l : Int}, 0 ≤ l → szL szVote xs l ≤ l := by
  induction xs with
  | nil => intro l h; exact Int.le_refl _
  | cons x xs ih =>
    intro l h
    have := szVote_le x h
    simp only [szL, thenI]
    split
    · omega
    · have := ih (l := szVote x l) (by omega); omega
theorem szAcc_le {x : Acc} {l : Int} (h : 0 ≤ l) : szAcc x l ≤ l := by
  refine sg_le ?_ h
  unfold szVoteS thenI
  split
  · omega
  · have := szL_le (xs := x.votes) (l := l - x.votes.length) (by omega); omega

end Mg

/- Messages. No condition. -/
namespace Mg
open Go Go.RowKit
set_option maxRecDepth 100000
set_option linter.unusedVariables false
set_option linter.unusedSimpArgs false
attribute [local irreducible] W Pure
structure Msg where
  kind : Int
  src : Int
  dst : Int
  bal : Int
  slot : Int
  e : Entry
  votes : List Vote
  deriving DecidableEq, Inhabited
def Msg.cells (x : Msg) : List MC := [i6 x.kind, i6 x.src, i6 x.dst, i6 x.bal, i6 x.slot] ++ x.e.cells ++ [.fz (x.votes.map Vote.cells)]
def Msg.ok (n : Nat) (x : Msg) : Prop := x.e.ok n ∧ VotesOk n x.votes
theorem c_eqMsg (x y : Msg) (hx : x.ok lim) (hy : y.ok lim) :
    Pure PP false 27 [.agg x.cells, .agg y.cells] (ob (decide (x = y))) := by
  obtain ⟨k, f, t, b, s, e, vs⟩ := x
  obtain ⟨k', f', t', b', s', e', vs'⟩ := y
  refine Pure.vc [(34, .res (ob (decide (e = e')))), (40, .res (ob (decide (vs = vs'))))] TTok hmo Go.Proofs.Tryd.func27 (by kernel_rfl) rfl (by kernel_rfl) ?_
  repeat' (first | refine And.intro ?_ ?_ | exact tf | exact ft | refine tt ?_ | refine ff ?_ | exact ⟨trivial⟩ | exact sLe rfl | exact Chk.mk (by kernel_rfl) | exact ⟨Chk.mk (by kernel_rfl)⟩ | exact sLeEq rfl rfl | exact sAnd (by repeat' constructor) (c_eqEntry _ _ hx.1 hy.1) | exact sAnd (by repeat' constructor) (c_eqVoteS _ _ (Nat.le_trans hx.2.1 (by decide)) (Nat.le_trans hy.2.1 (by decide)) hx.2.2 hy.2.2) | refine fun h => ?_)
  all_goals (refine ⟨?_⟩; simp_all)
  all_goals rfl

theorem c_toMsg (x : Msg) (hx : x.ok lim) :
    Pure PP false 26 [.agg x.cells] (.agg x.cells) := by
  refine Pure.vc [(21, .res (.agg x.e.cells)), (25, .res (.one (.fz (x.votes.map Vote.cells))))] TTok hmo Go.Proofs.Tryd.func26 (by kernel_rfl) rfl (by kernel_rfl) ?_
  repeat' (first | refine And.intro ?_ ?_ | exact tf | exact ft | refine tt ?_ | refine ff ?_ | exact ⟨trivial⟩ | exact sLe rfl | exact Chk.mk (by kernel_rfl) | exact ⟨Chk.mk (by kernel_rfl)⟩ | exact sLeEq rfl rfl | exact sAnd (by repeat' constructor) (c_toEntry _ hx.1) | exact sAnd (by repeat' constructor) (c_toVoteS _ hx.2.1 hx.2.2) | refine fun h => ?_)
  all_goals (refine ⟨?_⟩; repeat' (first | exact trivial | exact Nat.le_of_ble_eq_true rfl | rfl | refine And.intro ?_ ?_))

theorem c_impl_MsgSame (x y : Msg) (hx : x.ok lim) (hy : y.ok lim) :
    Pure PP false 29 [.agg x.cells, .agg y.cells] (ob (decide (x = y))) := by
  obtain ⟨k, f, t, b, s, e, vs⟩ := x
  obtain ⟨k', f', t', b', s', e', vs'⟩ := y
  refine Pure.vc [(43, .res (ob (decide (e = e')))), (50, .res (ob (decide (vs = vs'))))] TTok hmo Go.Proofs.Tryd.func29 (by kernel_rfl) rfl (by kernel_rfl) ?_
  repeat' (first | refine And.intro ?_ ?_ | exact tf | exact ft | refine tt ?_ | refine ff ?_ | exact ⟨trivial⟩ | exact sLe rfl | exact Chk.mk (by kernel_rfl) | exact ⟨Chk.mk (by kernel_rfl)⟩ | exact sLeEq rfl rfl | exact sAnd (by repeat' constructor) (c_impl_CertLike _ _ hx.1 hy.1) | exact sAnd (by repeat' constructor) (c_votesSame _ _ (Nat.le_trans hx.2.1 (by decide)) (Nat.le_trans hy.2.1 (by decide)) hx.2.2 hy.2.2) | refine fun h => ?_)
  all_goals (refine ⟨?_⟩; simp_all)
  all_goals rfl

theorem c_spec_MsgSame (x y : Msg) (hx : x.ok lim) (hy : y.ok lim) :
    Pure PP false 30 [.agg x.cells, .agg y.cells] (ob (decide (x = y))) := by
  obtain ⟨k, f, t, b, s, e, vs⟩ := x
  obtain ⟨k', f', t', b', s', e', vs'⟩ := y
  refine Pure.vc [(43, .res (ob (decide (e = e')))), (50, .res (ob (decide (vs = vs'))))] TTok hmo Go.Proofs.Tryd.func30 (by kernel_rfl) rfl (by kernel_rfl) ?_
  repeat' (first | refine And.intro ?_ ?_ | exact tf | exact ft | refine tt ?_ | refine ff ?_ | exact ⟨trivial⟩ | exact sLe rfl | exact Chk.mk (by kernel_rfl) | exact ⟨Chk.mk (by kernel_rfl)⟩ | exact sLeEq rfl rfl | exact sAnd (by repeat' constructor) (c_spec_CertLike _ _ hx.1 hy.1) | exact sAnd (by repeat' constructor) (c_l6Same _ _ (Nat.le_trans hx.2.1 (by decide)) (Nat.le_trans hy.2.1 (by decide)) hx.2.2 hy.2.2) | refine fun h => ?_)
  all_goals (refine ⟨?_⟩; simp_all)
  all_goals rfl

def szMsg (x : Msg) (l : Int) : Int := thenI (szEntry x.e l) fun a => sg (szVoteS x.votes a)
theorem c_szMsg (x : Msg) (l : Int) (h0 : 0 ≤ l) (h1 : l ≤ lim) (hx : x.ok maxLen) : Pure PP false 24 [.agg x.cells, oi l] (oi (szMsg x l)) := by
  have hle := szEntry_le x.e h0
  refine Pure.vc [(8, .res (oi (szEntry x.e l))), (14, .res (oi (szVoteS x.votes (szEntry x.e l))))] TTok hmo Go.Proofs.Tryd.func24 (by kernel_rfl) rfl (by kernel_rfl) ?_
  repeat' (first | refine And.intro ?_ ?_ | exact tf | exact ft | refine tt ?_ | refine ff ?_ | exact ⟨trivial⟩ | exact sLe rfl | exact Chk.mk (by kernel_rfl) | exact ⟨Chk.mk (by kernel_rfl)⟩ | exact sLeEq rfl rfl | refine fun h => ?_)
  · exact sAnd (by repeat' constructor) (c_szEntry _ _ h0 h1 hx.1)
  · refine ⟨?_⟩; simp_all [szMsg, thenI]
  · exact sAnd (by repeat' constructor) (c_szVoteS _ _ (by simpa using h) (by omega) hx.2.1 hx.2.2)
  all_goals (refine ⟨?_⟩; simp_all [szMsg, thenI, sg])
  all_goals omega
theorem szVoteS_le {xs : List Vote} {l : Int} (h : 0 ≤ l) : szVoteS xs l ≤ l := by
  unfold szVoteS thenI
  split
  · omega
  · have := szL_le (xs := xs) (l := l - xs.length) (by omega); omega
theorem szVoteS_ok {xs : List Vote} {l : Int} (h1 : l ≤ lim) (h : 0 ≤ szVoteS xs l) : VotesOk lim xs := by
  obtain ⟨ha, hb⟩ := thenI_pos h
  exact ⟨by omega, szL_ok ha (by omega) hb⟩
theorem szMsg_le {x : Msg} {l : Int} (h : 0 ≤ l) : szMsg x l ≤ l := by
  have h1 := szEntry_le x.e h
  unfold szMsg thenI
  split
  · omega
  · have := szVoteS_le (xs := x.votes) (l := szEntry x.e l) (by omega)
    exact sg_le (by omega) h
theorem szMsg_ok {x : Msg} {l : Int} (h0 : 0 ≤ l) (h1 : l ≤ lim) (h : 0 ≤ szMsg x l) : x.ok lim := by
  obtain ⟨ha, hb⟩ := thenI_pos h
  have h2 := szEntry_le x.e h0
  exact ⟨szRun_ok h1 (sg_pos ha), szVoteS_ok (by omega) (sg_pos hb)⟩
end Mg

/- Messages that are right. No condition. -/
namespace Mg
open Go Go.RowKit
set_option maxRecDepth 100000
set_option linter.unusedVariables false
set_option linter.unusedSimpArgs false
attribute [local irreducible] W Pure
theorem c_l7None (e : Entry) (he : e.ok lim) : Pure PP false 50 [.agg e.cells] (ob (decide (e = zeroE false))) := by
  obtain ⟨n, ⟨q1, q2⟩, r⟩ := e
  refine Pure.vc [(16, .res (ob (decide (r = zeroRun))))] TTok hmo Go.Proofs.Tryd.func50 (by kernel_rfl) rfl (by kernel_rfl) ?_
  repeat' (first | refine And.intro ?_ ?_ | exact tf | exact ft | refine tt ?_ | refine ff ?_ | exact ⟨trivial⟩ | exact sAll rfl | exact sF1 rfl | exact sBld (by repeat' (first | exact trivial | rfl | exact Nat.le_of_ble_eq_true rfl | refine And.intro ?_ ?_)) rfl | exact sBS (by repeat' (first | exact trivial | rfl | exact Nat.le_of_ble_eq_true rfl | refine And.intro ?_ ?_)) rfl rfl rfl rfl | exact sBSF (by repeat' (first | exact trivial | rfl | exact Nat.le_of_ble_eq_true rfl | refine And.intro ?_ ?_)) rfl rfl rfl rfl | exact sLe rfl | exact Chk.mk (by kernel_rfl) | exact ⟨Chk.mk (by kernel_rfl)⟩ | exact sLeEq rfl rfl | exact sAnd (by repeat' constructor) (c_spec_ExecSame _ zeroRun he zeroRun_ok) | refine fun h => ?_)
  all_goals (refine Side.mk ?_; simp_all [zeroE])
  all_goals repeat' (first | rfl | refine And.intro ?_ ?_)
theorem wsum {a : Int} {n : Nat} (h : inr a 0 40 = true) (hn : n ≤ 1048576) : IntKind.i64.wrap (a + n) = a + n := by
  simp only [inr, Bool.and_eq_true, decide_eq_true_eq] at h
  rw [wrapi] <;> omega
/-- As the one walk has it. -/
def msgOkS (k f t b s : Int) (e : Entry) (vs : List Vote) : Bool :=
  if (decide (f < 0) || decide (f ≥ 3) || decide (t < 0) || decide (t ≥ 3) || f == t || decide (s < 0) || decide (s > 40) || ((k != 2) && decide (((vs.map Vote.cells).length : Int) > 0))) = true then false else
   if (k == 1) = true then inr b 1 3000 && decide (e = zeroE false) else
   if (k == 2) = true then inr b 1 3000 && decide (e = zeroE false) && votesOk vs && decide (IntKind.i64.wrap (s + (vs.map Vote.cells).length) ≤ 40) else
   if (k == 3) = true then inr b 1 3000 && (entryOk e && decide (s < 40)) else
   if (k == 4) = true then inr b 1 3000 && decide (e = zeroE false) else
   if (k == 5) = true then b == 0 && (entryOk e && decide (s < 40)) else
   if (k == 6) = true then inr b 1 3000 && decide (e = zeroE false) && s == 0 else
   if (k == 7) = true then b == 0 && s == 0 && entryOk e && !e.none else
   if (k == 8) = true then b == 0 && decide (e = zeroE false) else false
set_option maxHeartbeats 4000000 in
theorem c_spec_MsgOk (m : Msg) (hm : m.ok lim) : Pure PP false 21 [.agg m.cells] (ob (msgOkS m.kind m.src m.dst m.bal m.slot m.e m.votes)) := by
  obtain ⟨k, f, t, b, s, ⟨n, q, r⟩, vs⟩ := m
  have hl : vs.length ≤ 1048576 := hm.2.1
  refine Pure.vc [(53, .res (ob (decide (Entry.mk n q r = zeroE false)))), (56, .res (ob (entryOk ⟨n, q, r⟩))), (68, .res (ob (inr b 1 3000))), (76, .res (ob (inr b 1 3000))), (83, .res (ob (votesOk vs))), (98, .res (ob (inr b 1 3000))), (106, .res (ob (inr b 1 3000))), (122, .res (ob (inr b 1 3000))), (144, .res (ob (entryOk ⟨n, q, r⟩)))] TTok hmo Go.Proofs.Tryd.func21 (by kernel_rfl) rfl (by kernel_rfl) ?_
  repeat' (first | refine And.intro ?_ ?_ | exact tf | exact ft | refine tt ?_ | refine ff ?_ | exact ⟨trivial⟩ | exact sAll rfl | exact sF1 rfl | exact sBld (by repeat' (first | exact trivial | rfl | exact Nat.le_of_ble_eq_true rfl | refine And.intro ?_ ?_)) rfl | exact sBS (by repeat' (first | exact trivial | rfl | exact Nat.le_of_ble_eq_true rfl | refine And.intro ?_ ?_)) rfl rfl rfl rfl | exact sBSF (by repeat' (first | exact trivial | rfl | exact Nat.le_of_ble_eq_true rfl | refine And.intro ?_ ?_)) rfl rfl rfl rfl | exact sLe rfl | exact Chk.mk (by kernel_rfl) | exact ⟨Chk.mk (by kernel_rfl)⟩ | exact sLeEq rfl rfl | exact sAnd (by repeat' constructor) (c_l7None ⟨n, q, r⟩ hm.1) | exact sAnd (by repeat' constructor) (c_spec_CertEntry ⟨n, q, r⟩ hm.1) | exact sAnd (by repeat' constructor) (c_l6Bal _) | exact sAnd (by repeat' constructor) (c_l6Votes _ (Nat.le_trans hm.2.1 (by decide)) hm.2.2) | refine fun h => ?_)
  all_goals (refine Side.mk ?_)
  all_goals try dsimp only at *
  all_goals try (simp only [msgOkS, *, Bool.or_false, Bool.false_or, Bool.true_and, Bool.and_true, Bool.false_and, Bool.and_false, Bool.or_true, Bool.true_or, if_true, if_false, Bool.false_eq_true, reduceIte, and_self, Bool.not_true, Bool.not_false]; done)
  all_goals try (simp_all [msgOkS]; done)
theorem rng2 {n : Int} : (decide (n < 0) || decide (n ≥ 3)) = !inr n 0 2 := by
  unfold inr
  by_cases h1 : n < 0 <;> by_cases h2 : n ≥ 3 <;> simp [h1, h2] <;> omega
theorem rng40 {n : Int} : (decide (n < 0) || decide (n > 40)) = !inr n 0 40 := by
  unfold inr
  by_cases h1 : n < 0 <;> by_cases h2 : n > 40 <;> simp [h1, h2] <;> omega
/-- As the other walk has it. -/
def msgOkI (k f t b s : Int) (e : Entry) (vs : List Vote) : Bool :=
  if (!inr f 0 2 || !inr t 0 2 || f == t || !inr s 0 40) = true then false else
   if (k == 1) = true then inr b 1 3000 && decide (e = zeroE false) && ((vs.map Vote.cells).length : Int) == 0 else
   if (k == 4) = true then inr b 1 3000 && decide (e = zeroE false) && ((vs.map Vote.cells).length : Int) == 0 else
   if (k == 2) = true then inr b 1 3000 && decide (e = zeroE false) && votesOk vs && decide (IntKind.i64.wrap (s + (vs.map Vote.cells).length) ≤ 40) else
   if (k == 3) = true then inr b 1 3000 && decide (s < 40) && entryOk e && ((vs.map Vote.cells).length : Int) == 0 else
   if (k == 5) = true then b == 0 && decide (s < 40) && entryOk e && ((vs.map Vote.cells).length : Int) == 0 else
   if (k == 6) = true then inr b 1 3000 && s == 0 && decide (e = zeroE false) && ((vs.map Vote.cells).length : Int) == 0 else
   if (k == 7) = true then b == 0 && s == 0 && entryOk e && !e.none && ((vs.map Vote.cells).length : Int) == 0 else
   if (k == 8) = true then b == 0 && decide (e = zeroE false) && ((vs.map Vote.cells).length : Int) == 0 else false
theorem msgOk_eq (k f t b s : Int) (e : Entry) (vs : List Vote) : msgOkI k f t b s e vs = msgOkS k f t b s e vs := by
  have hS : (decide (f < 0) || decide (f ≥ 3) || decide (t < 0) || decide (t ≥ 3) || f == t || decide (s < 0) || decide (s > 40) || ((k != 2) && decide (((vs.map Vote.cells).length : Int) > 0))) = ((!inr f 0 2 || !inr t 0 2 || f == t || !inr s 0 40) || ((k != 2) && decide (((vs.map Vote.cells).length : Int) > 0))) := by
    rw [← rng2, ← rng2, ← rng40]
    simp only [Bool.or_assoc]
  unfold msgOkI msgOkS
  rw [hS]
  generalize (!inr f 0 2 || !inr t 0 2 || f == t || !inr s 0 40) = A
  cases A
  · generalize inr b 1 3000 = B
    generalize entryOk e = C
    generalize decide (e = zeroE false) = D
    generalize decide (s < 40) = E
    generalize (s == 0) = G
    generalize (b == 0) = H
    generalize e.none = I
    have hl : (((vs.map Vote.cells).length : Int) == 0) = !decide (((vs.map Vote.cells).length : Int) > 0) := by
      by_cases h : (((vs.map Vote.cells).length : Int)) = 0
      · rw [h]; rfl
      · have : (((vs.map Vote.cells).length : Int)) > 0 := by omega
        simp only [decide_eq_true this, Bool.not_true, beq_eq_false_iff_ne]; exact h
    rw [hl]
    generalize decide (((vs.map Vote.cells).length : Int) > 0) = N
    by_cases h1 : k = 1 <;> by_cases h2 : k = 2 <;> by_cases h3 : k = 3 <;> by_cases h4 : k = 4 <;> by_cases h5 : k = 5 <;> by_cases h6 : k = 6 <;> by_cases h7 : k = 7 <;> by_cases h8 : k = 8
    all_goals try (exfalso; omega)
    all_goals cases N <;> simp [h1, h2, h3, h4, h5, h6, h7, h8]
    all_goals (cases B <;> cases C <;> cases D <;> cases E <;> cases H <;> cases G <;> rfl)
  · simp
set_option maxHeartbeats 4000000 in
theorem c_impl_MsgOk (m : Msg) (hm : m.ok lim) : Pure PP false 20 [.agg m.cells] (ob (msgOkI m.kind m.src m.dst m.bal m.slot m.e m.votes)) := by
  obtain ⟨k, f, t, b, s, ⟨n, q, r⟩, vs⟩ := m
  have hl : vs.length ≤ 1048576 := hm.2.1
  refine Pure.vc [(8, .res (ob (inr f 0 2))), (13, .res (ob (inr t 0 2))), (26, .res (ob (inr s 0 40))), (31, .res (ob (inr b 1 3000))), (35, .res (ob (decide (Entry.mk n q r = zeroE false)))), (61, .res (ob (votesOk vs))), (83, .res (ob (entryOk ⟨n, q, r⟩))), (101, .res (ob (entryOk ⟨n, q, r⟩))), (133, .res (ob (entryOk ⟨n, q, r⟩)))] TTok hmo Go.Proofs.Tryd.func20 (by kernel_rfl) rfl (by kernel_rfl) ?_
  repeat' (first | refine And.intro ?_ ?_ | exact tf | exact ft | refine tt ?_ | refine ff ?_ | exact ⟨trivial⟩ | exact sAll rfl | exact sF1 rfl | exact sBld (by repeat' (first | exact trivial | rfl | exact Nat.le_of_ble_eq_true rfl | refine And.intro ?_ ?_)) rfl | exact sBS (by repeat' (first | exact trivial | rfl | exact Nat.le_of_ble_eq_true rfl | refine And.intro ?_ ?_)) rfl rfl rfl rfl | exact sBSF (by repeat' (first | exact trivial | rfl | exact Nat.le_of_ble_eq_true rfl | refine And.intro ?_ ?_)) rfl rfl rfl rfl | exact sLe rfl | exact Chk.mk (by kernel_rfl) | exact ⟨Chk.mk (by kernel_rfl)⟩ | exact sLeEq rfl rfl | exact sAnd (by repeat' constructor) (c_impl_in _ _ _) | exact sAnd (by repeat' constructor) (c_impl_CertLike ⟨n, q, r⟩ (zeroE false) hm.1 zeroRun_ok) | exact sAnd (by repeat' constructor) (c_impl_CertEntry ⟨n, q, r⟩ hm.1) | exact sAnd (by repeat' constructor) (c_impl_votesOk _ (Nat.le_trans hm.2.1 (by decide)) hm.2.2) | refine fun h => ?_)
  all_goals (refine Side.mk ?_)
  all_goals try dsimp only at *
  all_goals simp_all [msgOkI]
  all_goals (intro hlt; exfalso; omega)
end Mg

/- Messages' texts, plain. No condition. -/
namespace Mg
open Go Go.RowKit Go.Lib
set_option maxRecDepth 100000
set_option linter.unusedVariables false
set_option linter.unusedSimpArgs false
attribute [local irreducible] W Pure
theorem I6.of {n lo hi : Int} (h : inr n lo hi = true) (h1 : -9223372036854775808 ≤ lo) (h2 : hi ≤ 9223372036854775807) : I6 n := by
  simp only [inr, Bool.and_eq_true, decide_eq_true_eq] at h
  exact ⟨by omega, by omega⟩
theorem listOk_int {lo : Int} (h0 : -9223372036854775808 ≤ lo) {xs : List Two} (h : listOk lo xs = true) : ∀ x ∈ xs, x.int := fun x hx => by
  obtain ⟨i, hi, rfl⟩ := List.getElem_of_mem hx
  simp only [listOk, List.all_eq_true, List.mem_range] at h
  have := h i hi
  simp only [elemOk, Bool.and_eq_true] at this
  rw [getD_get hi] at this
  exact ⟨I6.of this.1.1 (by decide) (by decide), I6.of this.1.2 h0 (by decide)⟩
theorem I60 : I6 0 := ⟨by decide, by decide⟩
theorem zeroE_int (b : Bool) : (zeroE b).int := ⟨⟨I60, I60⟩, fun x hx => by simp [zeroE, zeroRun] at hx, fun x hx => by simp [zeroE, zeroRun] at hx, I60, I60⟩
theorem entryOk_int {e : Entry} (h : entryOk e = true) : e.int := by
  unfold entryOk at h
  split at h
  · rw [of_decide_eq_true h]; exact zeroE_int true
  · simp only [Bool.and_eq_true, reqOk, execOk, headOk] at h
    obtain ⟨⟨⟨q1, q2⟩, ⟨⟨⟨⟨r1, r2⟩, _⟩, _⟩, l1⟩, l2⟩, _⟩ := h
    exact ⟨⟨I6.of q1 (by decide) (by decide), I6.of q2 (by decide) (by decide)⟩, listOk_int (by decide) l1, listOk_int (by decide) l2, I6.of r2 (by decide) (by decide), I6.of r1 (by decide) (by decide)⟩
def words : List (List UInt8) := [[], [112, 114, 101, 112, 97, 114, 101], [112, 114, 111, 109, 105, 115, 101], [97, 99, 99, 101, 112, 116], [97, 99, 99, 101, 112, 116, 101, 100], [99, 104, 111, 115, 101, 110], [114, 101, 102, 117, 115, 101], [97, 115, 107], [110, 101, 101, 100]]
def wordC (w : List UInt8) : List MC := [.sc (.string (str w))]
def word (k : Int) : List UInt8 := words.getD k.toNat []
def mOk (m : Msg) : Bool := msgOkS m.kind m.src m.dst m.bal m.slot m.e m.votes
def msgHead (m : Msg) : List UInt8 := word m.kind ++ [32] ++ itoa m.src ++ [32] ++ itoa m.dst ++ [32] ++ itoa m.bal ++ [32] ++ itoa m.slot
def voteText (v : Vote) : List UInt8 := [32] ++ itoa v.bal ++ (if v.bal = 0 then [] else entText v.e)
def votesText (vs : List Vote) : List UInt8 := vs.flatMap voteText
def msgTail (m : Msg) : List UInt8 := if m.kind = 3 ∨ m.kind = 5 ∨ m.kind = 7 then [32] ++ entText m.e else if m.kind = 2 then votesText m.votes else []
def msgText (m : Msg) : List UInt8 := if mOk m = true then msgHead m ++ msgTail m else []
structure MsgF (m : Msg) : Prop where
  kind : 1 ≤ m.kind ∧ m.kind ≤ 8
  src : 0 ≤ m.src ∧ m.src ≤ 2
  dst : 0 ≤ m.dst ∧ m.dst ≤ 2
  ne : m.src ≠ m.dst
  bal : 0 ≤ m.bal ∧ m.bal ≤ 3000
  slot : 0 ≤ m.slot ∧ m.slot ≤ 40
  ent : (m.kind = 3 ∨ m.kind = 5 ∨ m.kind = 7) → entryOk m.e = true
  noent : ¬ (m.kind = 3 ∨ m.kind = 5 ∨ m.kind = 7) → m.e = zeroE false
  vs : m.kind = 2 → votesOk m.votes = true
  novs : m.kind ≠ 2 → m.votes = []
theorem mOk_f {m : Msg} (h : mOk m = true) : MsgF m := by
  obtain ⟨k, f, t, b, s, e, vs⟩ := m
  unfold mOk msgOkS at h
  dsimp only at h
  split at h
  · cases h
  rename_i hc
  simp only [Bool.or_eq_true, decide_eq_true_eq, beq_iff_eq, Bool.and_eq_true, bne_iff_ne, ne_eq, List.length_map, not_or, not_and] at hc
  obtain ⟨⟨⟨⟨⟨⟨⟨c1, c2⟩, c3⟩, c4⟩, c5⟩, c6⟩, c7⟩, c8⟩ := hc
  have hvs : k ≠ 2 → vs = [] := fun hk => List.eq_nil_of_length_eq_zero (by have := c8 hk; omega)
  have fin : (1 ≤ k ∧ k ≤ 8) → (0 ≤ b ∧ b ≤ 3000) → ((k = 3 ∨ k = 5 ∨ k = 7) → entryOk e = true) → (¬ (k = 3 ∨ k = 5 ∨ k = 7) → e = zeroE false) → (k = 2 → votesOk vs = true) → MsgF ⟨k, f, t, b, s, e, vs⟩ :=
    fun a1 a2 a3 a4 a5 => ⟨a1, ⟨by dsimp only; omega, by dsimp only; omega⟩, ⟨by dsimp only; omega, by dsimp only; omega⟩, c5, a2, ⟨by dsimp only; omega, by dsimp only; omega⟩, a3, a4, a5, hvs⟩
  repeat' split at h
  all_goals try (cases h; done)
  all_goals simp only [Bool.and_eq_true, decide_eq_true_eq, beq_iff_eq, inr, Bool.not_eq_true'] at *
  all_goals first
    | exact fin (by omega) (by omega) (fun _ => by simp_all) (fun hk => by first | simp_all | omega) (fun hk => by first | simp_all | omega)
    | exact fin (by omega) (by omega) (fun hk => by first | simp_all | omega) (fun hk => by first | (exfalso; apply hk; omega) | simp_all) (fun hk => by first | simp_all | omega)
    | skip
theorem word_at {k : Int} (h : 1 ≤ k ∧ k ≤ 8) : (words.map wordC)[k.toNat]? = some (wordC (word k)) := by
  obtain ⟨n, rfl⟩ := Int.eq_ofNat_of_zero_le (show 0 ≤ k by omega)
  have hn : n < 9 := by omega
  unfold word
  rw [Int.toNat_natCast]
  match n, hn with
  | 0, _ | 1, _ | 2, _ | 3, _ | 4, _ | 5, _ | 6, _ | 7, _ | 8, _ => rfl
theorem word_len (k : Int) : (word k).length ≤ 8 := by
  unfold word
  by_cases h : k.toNat < words.length
  · rw [List.getD_eq_getElem?_getD, List.getElem?_eq_getElem h]
    have : ∀ w ∈ words, w.length ≤ 8 := by decide
    exact this _ (List.getElem_mem h)
  · rw [List.getD_eq_getElem?_getD, List.getElem?_eq_none (by omega)]; decide
theorem ent_len {e : Entry} (h : e.int) (ho : e.ok lim) : (entText e).length ≤ 100000000 := by
  have h1 : e.run.reads.length ≤ 1048576 := ho.1
  have h2 : e.run.puts.length ≤ 1048576 := ho.2
  have l1 := h.q.1.len
  have l2 := h.q.2.len
  have l3 := h.c.len
  have l4 := h.d.len
  have g1 := twos_len (a := 63) (b := 47) h.r
  have g2 := twos_len (a := 33) (b := 61) h.p
  cases hn : e.none with
  | true => simp [entText, hn]
  | false =>
    rw [ent_eq hn]
    simp only [List.length_append, List.length_cons, List.length_nil, entHead]
    omega
end Mg

/- Messages' texts, walked. No condition. -/
namespace Mg
open Go Go.RowKit Go.Lib
set_option maxRecDepth 100000
set_option linter.unusedVariables false
set_option linter.unusedSimpArgs false
attribute [local irreducible] W Pure
theorem nF {b : Bool} (h : (!b) = false) : ¬ b = false := by cases b <;> simp_all
theorem nT {b : Bool} (h : (!b) = true) : ¬ b = true := by cases b <;> simp_all
theorem c_l7Words : Pure PP false 54 [] (.one (.fz (words.map wordC))) := by
  refine Pure.vc [(1, .row [])] TTok hmo Go.Proofs.Tryd.func54 (by kernel_rfl) rfl (by kernel_rfl) ?_
  repeat' (first | refine And.intro ?_ ?_ | exact tf | exact ft | refine tt ?_ | refine ff ?_ | exact ⟨trivial⟩ | exact sAll rfl | exact sF1 rfl | exact sBld (by repeat' (first | exact trivial | rfl | exact Nat.le_of_ble_eq_true rfl | refine And.intro ?_ ?_)) rfl | exact sBS (by repeat' (first | exact trivial | rfl | exact Nat.le_of_ble_eq_true rfl | refine And.intro ?_ ?_)) rfl rfl rfl rfl | exact sBSF (by repeat' (first | exact trivial | rfl | exact Nat.le_of_ble_eq_true rfl | refine And.intro ?_ ?_)) rfl rfl rfl rfl | exact sLe rfl | exact Chk.mk (by kernel_rfl) | exact ⟨Chk.mk (by kernel_rfl)⟩ | exact sLeEq rfl rfl | refine fun h => ?_)
  all_goals (refine ⟨?_⟩; repeat' (first | exact trivial | rfl | refine And.intro ?_ ?_))
theorem text_no {m : Msg} (h : mOk m = false) : msgText m = [] := by simp [msgText, h]
theorem text_yes {m : Msg} (h : mOk m = true) : msgText m = msgHead m ++ msgTail m := by simp [msgText, h]
theorem votesText_step {vs : List Vote} {i : Nat} (h : i < vs.length) : votesText (vs.take (i + 1)) = votesText (vs.take i) ++ voteText (vs.getD i default) := by
  unfold votesText
  rw [List.take_succ_eq_append_getElem h, List.flatMap_append, getD_get h]
  simp
theorem votesText_len {vs : List Vote} (h : ∀ v ∈ vs, (voteText v).length ≤ 100000030) : (votesText vs).length ≤ 100000030 * vs.length := by
  induction vs with
  | nil => exact Nat.le_refl _
  | cons v vs ih =>
    have h1 := h v List.mem_cons_self
    have h2 := ih fun x hx => h x (List.mem_cons_of_mem _ hx)
    simp only [votesText, List.flatMap_cons, List.length_append, List.length_cons] at *
    omega
structure VoteF (v : Vote) : Prop where
  bal : 0 ≤ v.bal ∧ v.bal ≤ 3000
  e : v.bal ≠ 0 → entryOk v.e = true
  z : v.bal = 0 → v.e = zeroE false
theorem voteOk_f {v : Vote} (h : voteOk v = true) : VoteF v := by
  unfold voteOk at h
  split at h
  · rename_i hb
    exact ⟨by omega, fun hn => absurd hb hn, fun _ => of_decide_eq_true h⟩
  · rename_i hb
    simp only [inr, Bool.and_eq_true, decide_eq_true_eq] at h
    exact ⟨by omega, fun _ => h.2, fun hz => absurd hz hb⟩
theorem vote_len {v : Vote} (h : VoteF v) (ho : v.ok lim) : (voteText v).length ≤ 100000030 := by
  have h1 := itoa_len (n := v.bal) (by have := h.bal; omega) (by have := h.bal; omega)
  unfold voteText
  split
  · simp; omega
  · rename_i hb
    have := ent_len (entryOk_int (h.e hb)) ho
    simp only [List.length_append, List.length_cons, List.length_nil]; omega
theorem votesF {vs : List Vote} (h : votesOk vs = true) : vs.length ≤ 40 ∧ ∀ v ∈ vs, VoteF v := by
  simp only [votesOk, Bool.and_eq_true, decide_eq_true_eq, List.all_eq_true] at h
  exact ⟨h.1, fun v hv => voteOk_f (h.2 v hv)⟩
set_option maxHeartbeats 8000000 in
theorem c_spec_MsgText (m : Msg) (hm : m.ok lim) : Pure PP false 25 [.agg m.cells] (os (msgText m)) := by
  have hO := c_spec_MsgOk m hm
  by_cases hok : mOk m = false
  · refine Pure.vc [(6, .res (ob (mOk m)))] TTok hmo Go.Proofs.Tryd.func25 (by kernel_rfl) rfl (by kernel_rfl) ?_
    repeat' (first | refine And.intro ?_ ?_ | exact tf | exact ft | refine tt ?_ | refine ff ?_ | exact fun h => absurd hok (nF h) | exact ⟨trivial⟩ | exact sAll rfl | exact sF1 rfl | exact sBld (by repeat' (first | exact trivial | rfl | exact Nat.le_of_ble_eq_true rfl | refine And.intro ?_ ?_)) rfl | exact sBS (by repeat' (first | exact trivial | rfl | exact Nat.le_of_ble_eq_true rfl | refine And.intro ?_ ?_)) rfl rfl rfl rfl | exact sBSF (by repeat' (first | exact trivial | rfl | exact Nat.le_of_ble_eq_true rfl | refine And.intro ?_ ?_)) rfl rfl rfl rfl | exact sLe rfl | exact Chk.mk (by kernel_rfl) | exact ⟨Chk.mk (by kernel_rfl)⟩ | exact sLeEq rfl rfl | exact sAnd (by repeat' constructor) (hO) | refine fun h => ?_)
    all_goals (rw [text_no hok]; exact ⟨⟨trivial, trivial⟩, rfl, trivial⟩)
  have hok : mOk m = true := by simpa using hok
  have F := mOk_f hok
  have s1 : I6 m.src := ⟨by have := F.src; omega, by have := F.src; omega⟩
  have s2 : I6 m.dst := ⟨by have := F.dst; omega, by have := F.dst; omega⟩
  have s3 : I6 m.bal := ⟨by have := F.bal; omega, by have := F.bal; omega⟩
  have s4 : I6 m.slot := ⟨by have := F.slot; omega, by have := F.slot; omega⟩
  have l1 := s1.len
  have l2 := s2.len
  have l3 := s3.len
  have l4 := s4.len
  have lw := word_len m.kind
  have fk := F.kind
  rw [text_yes hok]
  refine Pure.vc [(6, .res (ob (mOk m))), (8, .res (.one (.fz (words.map wordC)))), (11, .row (wordC (word m.kind))), (16, .res (os (itoa m.src))), (21, .res (os (itoa m.dst))), (26, .res (os (itoa m.bal))), (31, .res (os (itoa m.slot))), (940003, .row [i6 25]), (43, .res (os (entText m.e)))] TTok hmo Go.Proofs.Tryd.func25 (by kernel_rfl) rfl (by kernel_rfl) ?_
  repeat' (first | refine And.intro ?_ ?_ | exact tf | exact ft | refine tt ?_ | refine ff ?_ | exact fun h => absurd hok (nT h) | exact ⟨trivial⟩ | exact sAll rfl | exact sF1 rfl | exact sBld (by repeat' (first | exact trivial | rfl | exact Nat.le_of_ble_eq_true rfl | refine And.intro ?_ ?_)) rfl | exact sBS (by repeat' (first | exact trivial | rfl | exact Nat.le_of_ble_eq_true rfl | refine And.intro ?_ ?_)) rfl rfl rfl rfl | exact sBSF (by repeat' (first | exact trivial | rfl | exact Nat.le_of_ble_eq_true rfl | refine And.intro ?_ ?_)) rfl rfl rfl rfl | exact sLe rfl | exact Chk.mk (by kernel_rfl) | exact ⟨Chk.mk (by kernel_rfl)⟩ | exact sLeEq rfl rfl | exact sAnd (by repeat' constructor) (hO) | exact sAnd (by repeat' constructor) (c_l7Words) | exact sAnd (by repeat' constructor) (c_l15Dec _ s1.1 s1.2) | exact sAnd (by repeat' constructor) (c_l15Dec _ s2.1 s2.2) | exact sAnd (by repeat' constructor) (c_l15Dec _ s3.1 s3.2) | exact sAnd (by repeat' constructor) (c_l15Dec _ s4.1 s4.2) | exact sAnd (by repeat' constructor) (sRow (by omega) (word_at fk) rfl) | refine fun h => ?_)
  all_goals simp only [decide_eq_true_eq, decide_eq_false_iff_not, List.length_map, Bool.not_eq_true', Bool.not_eq_false', Bool.not_eq_eq_eq_not, Bool.not_true, Bool.not_false, bne_iff_ne, ne_eq, bne_eq_false_iff_eq, beq_iff_eq, beq_eq_false_iff_ne] at *
  all_goals try (exfalso; omega)
  all_goals try (exact absurd (hok.symm.trans ‹mOk m = false›) (by decide))
  all_goals try (exact sRow (by omega) (word_at fk) rfl)
  all_goals try (refine ⟨?_⟩; simp only [lit1, lit2, str_app, str_size, List.length_append, List.length_cons, List.length_nil]; omega)
  all_goals try (exact sAnd (by repeat' constructor) (c_spec_MsgEntry _ (entryOk_int (F.ent (by omega))) hm.1))
  all_goals try (have he := ent_len (entryOk_int (F.ent (by omega))) hm.1; refine ⟨?_⟩; simp only [lit1, lit2, str_app, str_size, List.length_append, List.length_cons, List.length_nil]; omega)
  all_goals try (refine ⟨⟨trivial, trivial⟩, ?_, trivial⟩; rw [show msgTail m = [32] ++ entText m.e from if_pos (by omega)]; simp only [lit1, lit2, str_app, msgHead, List.append_assoc]; done)
  all_goals try (refine ⟨⟨trivial, trivial⟩, ?_, trivial⟩; rw [show msgTail m = [] by unfold msgTail; rw [if_neg (by omega), if_neg (by omega)]]; simp only [lit1, lit2, str_app, msgHead, List.append_assoc, List.append_nil]; done)
  have lh : (msgHead m).length ≤ 200 := by simp only [msgHead, List.length_append, List.length_cons, List.length_nil]; omega
  have fv := votesF (F.vs (by omega))
  have ov := hm.2.2
  have hl0 : m.votes.length ≤ 1048576 := by omega
  have gl : ∀ i, (votesText (m.votes.take i)).length ≤ 100000030 * 40 := fun i => by
    have h1 := votesText_len (vs := m.votes.take i) fun v hv => vote_len (fv.2 v (List.mem_of_mem_take hv)) (ov v (List.mem_of_mem_take hv))
    have h2 : (m.votes.take i).length ≤ 40 := by rw [List.length_take]; have := fv.1; omega
    exact Nat.le_trans h1 (Nat.mul_le_mul_left _ h2)
  refine W.loopC (D := Nat) (fun i => [(59, .row (m.votes.getD i default).cells), (62, .res (os (itoa (m.votes.getD i default).bal))), (67, .row (m.votes.getD i default).cells), (75, .row (m.votes.getD i default).cells), (78, .res (os (entText (m.votes.getD i default).e)))]) TTok hmo
    (fun i => ⟨81, 1, [(1, .one (.ptr 0 0 0)), (3, os (msgHead m ++ votesText (m.votes.take i))), (4, oi i)], [(0, .box (m.cells.map MC.toA))]⟩) (fun i => m.votes.length - i) (fun i => i ≤ m.votes.length) 0 [] (Nat.zero_le _) ?_ ?_
  · repeat' (first | exact trivial | exact ⟨trivial⟩ | exact Side.mk rfl | exact sF1 rfl | exact Chk.mk (by kernel_rfl) | exact ⟨Chk.mk (by kernel_rfl)⟩ | exact ⟨by simp only [lit1, lit2, str_app, msgHead, votesText, List.append_assoc, List.take_zero, List.flatMap_nil, List.append_nil]⟩ | refine And.intro ?_ ?_ | rfl)
  · intro i hi
    have fi : i < m.votes.length → VoteF (m.votes.getD i default) := fun h => fv.2 _ (getD_mem h)
    have oi' : i < m.votes.length → (m.votes.getD i default).ok lim := fun h => ov _ (getD_mem h)
    have gi := gl i
    repeat' (first | refine And.intro ?_ ?_ | exact tf | exact ft | refine tt ?_ | refine ff ?_ | exact ⟨trivial⟩ | exact sAll rfl | exact sF1 rfl | exact sBld (by repeat' (first | exact trivial | rfl | exact Nat.le_of_ble_eq_true rfl | refine And.intro ?_ ?_)) rfl | exact sBS (by repeat' (first | exact trivial | rfl | exact Nat.le_of_ble_eq_true rfl | refine And.intro ?_ ?_)) rfl rfl rfl rfl | exact sBSF (by repeat' (first | exact trivial | rfl | exact Nat.le_of_ble_eq_true rfl | refine And.intro ?_ ?_)) rfl rfl rfl rfl | exact sLe rfl | exact Chk.mk (by kernel_rfl) | exact ⟨Chk.mk (by kernel_rfl)⟩ | exact sLeEq rfl rfl | refine fun h => ?_)
    all_goals simp only [decide_eq_true_eq, decide_eq_false_iff_not, List.length_map, Bool.not_eq_true', Bool.not_eq_false', Bool.not_eq_eq_eq_not, Bool.not_true, Bool.not_false, bne_iff_ne, ne_eq, bne_eq_false_iff_eq, beq_iff_eq, beq_eq_false_iff_ne] at *
    all_goals try (exact sRow (by omega) (row_at m.votes _ (by omega)) rfl)
    all_goals try (exact sAnd (by repeat' constructor) (c_l15Dec _ (by have := (fi (by omega)).bal; omega) (by have := (fi (by omega)).bal; omega)))
    all_goals try (exact sAnd (by repeat' constructor) (c_spec_MsgEntry _ (entryOk_int ((fi (by omega)).e (by omega))) (oi' (by omega))))
    all_goals try (have b := fi (by omega); have l := itoa_len (n := (m.votes.getD i default).bal) (by have := b.bal; omega) (by have := b.bal; omega); refine ⟨?_⟩; simp only [lit1, lit2, str_app, str_size, List.length_append, List.length_cons, List.length_nil]; omega)
    all_goals try (have b := fi (by omega); have l := itoa_len (n := (m.votes.getD i default).bal) (by have := b.bal; omega) (by have := b.bal; omega); have l2 := ent_len (entryOk_int (b.e (by omega))) (oi' (by omega)); refine ⟨?_⟩; simp only [lit1, lit2, str_app, str_size, List.length_append, List.length_cons, List.length_nil]; omega)
    · have ev : voteText (m.votes.getD i default) = [32] ++ itoa (m.votes.getD i default).bal ++ entText (m.votes.getD i default).e := by unfold voteText; rw [if_neg (by omega)]
      refine ⟨i + 1, [], by omega, by omega, ?_⟩
      repeat' (first | exact trivial | exact ⟨trivial⟩ | exact Side.mk rfl | exact sF1 rfl | exact Chk.mk (by kernel_rfl) | exact ⟨Chk.mk (by kernel_rfl)⟩ | exact ⟨by rw [wrapi] <;> omega⟩ | exact ⟨by rw [votesText_step (by omega), ev]; simp only [lit1, lit2, str_app, List.append_assoc]⟩ | refine And.intro ?_ ?_ | rfl)
    · have hz : (m.votes.getD i default).bal = 0 := by have := (fi (by omega)).bal; omega
      have ev : voteText (m.votes.getD i default) = [32] ++ itoa (m.votes.getD i default).bal := by unfold voteText; rw [if_pos hz, List.append_nil]
      refine ⟨i + 1, [], by omega, by omega, ?_⟩
      repeat' (first | exact trivial | exact ⟨trivial⟩ | exact Side.mk rfl | exact sF1 rfl | exact Chk.mk (by kernel_rfl) | exact ⟨Chk.mk (by kernel_rfl)⟩ | exact ⟨by rw [wrapi] <;> omega⟩ | exact ⟨by rw [votesText_step (by omega), ev]; simp only [lit1, lit2, str_app, List.append_assoc]⟩ | refine And.intro ?_ ?_ | rfl)
    · rw [show msgTail m = votesText m.votes by unfold msgTail; rw [if_neg (by omega), if_pos (by omega)], List.take_of_length_le (by omega)]
      exact ⟨⟨trivial, trivial⟩, rfl, trivial⟩
end Mg

/- Messages' texts, written by the program. No condition. -/
namespace Mg
open Go Go.RowKit Go.Lib
set_option maxRecDepth 100000
set_option linter.unusedVariables false
set_option linter.unusedSimpArgs false
attribute [local irreducible] W Pure
set_option maxHeartbeats 8000000 in
theorem c_impl_MsgText (m : Msg) (hm : m.ok lim) : Pure PP false 22 [.agg m.cells] (os (msgText m)) := by
  have hO := c_impl_MsgOk m hm
  rw [msgOk_eq] at hO
  by_cases hok : mOk m = false
  · refine Pure.vc [(8, .res (ob (mOk m)))] TTok hmo Go.Proofs.Tryd.func22 (by kernel_rfl) rfl (by kernel_rfl) ?_
    repeat' (first | refine And.intro ?_ ?_ | exact tf | exact ft | refine tt ?_ | refine ff ?_ | exact fun h => absurd hok (nF h) | exact ⟨trivial⟩ | exact sAll rfl | exact sF1 rfl | exact sBld (by repeat' (first | exact trivial | rfl | exact Nat.le_of_ble_eq_true rfl | refine And.intro ?_ ?_)) rfl | exact sBS (by repeat' (first | exact trivial | rfl | exact Nat.le_of_ble_eq_true rfl | refine And.intro ?_ ?_)) rfl rfl rfl rfl | exact sBSF (by repeat' (first | exact trivial | rfl | exact Nat.le_of_ble_eq_true rfl | refine And.intro ?_ ?_)) rfl rfl rfl rfl | exact sLe rfl | exact Chk.mk (by kernel_rfl) | exact ⟨Chk.mk (by kernel_rfl)⟩ | exact sLeEq rfl rfl | exact sAnd (by repeat' constructor) (hO) | refine fun h => ?_)
    all_goals (rw [text_no hok]; exact ⟨⟨trivial, trivial⟩, rfl, trivial⟩)
  have hok : mOk m = true := by simpa using hok
  have F := mOk_f hok
  have s1 : I6 m.src := ⟨by have := F.src; omega, by have := F.src; omega⟩
  have s2 : I6 m.dst := ⟨by have := F.dst; omega, by have := F.dst; omega⟩
  have s3 : I6 m.bal := ⟨by have := F.bal; omega, by have := F.bal; omega⟩
  have s4 : I6 m.slot := ⟨by have := F.slot; omega, by have := F.slot; omega⟩
  have l1 := s1.len
  have l2 := s2.len
  have l3 := s3.len
  have l4 := s4.len
  have lw := word_len m.kind
  have fk := F.kind
  rw [text_yes hok]
  refine Pure.vc [(8, .res (ob (mOk m))), (10, .row []), (13, .row (wordC (word m.kind))), (19, .res (os (itoa m.src))), (24, .res (os (itoa m.dst))), (29, .res (os (itoa m.bal))), (34, .res (os (itoa m.slot))), (45, .res (os (entText m.e)))] TTok hmo Go.Proofs.Tryd.func22 (by kernel_rfl) rfl (by kernel_rfl) ?_
  repeat' (first | refine And.intro ?_ ?_ | exact tf | exact ft | refine tt ?_ | refine ff ?_ | exact fun h => absurd hok (nT h) | exact ⟨trivial⟩ | exact sAll rfl | exact sF1 rfl | exact sBld (by repeat' (first | exact trivial | rfl | exact Nat.le_of_ble_eq_true rfl | refine And.intro ?_ ?_)) rfl | exact sBS (by repeat' (first | exact trivial | rfl | exact Nat.le_of_ble_eq_true rfl | refine And.intro ?_ ?_)) rfl rfl rfl rfl | exact sBSF (by repeat' (first | exact trivial | rfl | exact Nat.le_of_ble_eq_true rfl | refine And.intro ?_ ?_)) rfl rfl rfl rfl | exact sLe rfl | exact Chk.mk (by kernel_rfl) | exact ⟨Chk.mk (by kernel_rfl)⟩ | exact sLeEq rfl rfl | exact sAnd (by repeat' constructor) (hO) | exact sAnd (by repeat' constructor) (c_Itoa _ s1.1 s1.2) | exact sAnd (by repeat' constructor) (c_Itoa _ s2.1 s2.2) | exact sAnd (by repeat' constructor) (c_Itoa _ s3.1 s3.2) | exact sAnd (by repeat' constructor) (c_Itoa _ s4.1 s4.2) | refine fun h => ?_)
  all_goals simp only [decide_eq_true_eq, decide_eq_false_iff_not, List.length_map, Bool.not_eq_true', Bool.not_eq_false', Bool.not_eq_eq_eq_not, Bool.not_true, Bool.not_false, bne_iff_ne, ne_eq, bne_eq_false_iff_eq, beq_iff_eq, beq_eq_false_iff_ne] at *
  all_goals try (exfalso; omega)
  all_goals try (refine Side.mk ⟨by omega, ?_, rfl⟩; exact word_at fk)
  all_goals try (refine ⟨?_⟩; simp only [lit1, lit2, str_app, str_size, List.length_append, List.length_cons, List.length_nil]; omega)
  all_goals try (exact sAnd (by repeat' constructor) (c_impl_MsgEntry _ (entryOk_int (F.ent (by omega))) hm.1))
  all_goals try (have he := ent_len (entryOk_int (F.ent (by omega))) hm.1; refine ⟨?_⟩; simp only [lit1, lit2, str_app, str_size, List.length_append, List.length_cons, List.length_nil]; omega)
  all_goals try (refine ⟨⟨trivial, trivial⟩, ?_, trivial⟩; rw [show msgTail m = [32] ++ entText m.e from if_pos (by omega)]; simp only [lit1, lit2, str_app, msgHead, List.append_assoc]; done)
  all_goals try (refine ⟨⟨trivial, trivial⟩, ?_, trivial⟩; rw [show msgTail m = [] by unfold msgTail; rw [if_neg (by omega), if_neg (by omega)]]; simp only [lit1, lit2, str_app, msgHead, List.append_assoc, List.append_nil]; done)
  have lh : (msgHead m).length ≤ 200 := by simp only [msgHead, List.length_append, List.length_cons, List.length_nil]; omega
  have fv := votesF (F.vs (by omega))
  have ov := hm.2.2
  have hl0 : m.votes.length ≤ 1048576 := by omega
  have gl : ∀ i, (votesText (m.votes.take i)).length ≤ 100000030 * 40 := fun i => by
    have h1 := votesText_len (vs := m.votes.take i) fun v hv => vote_len (fv.2 v (List.mem_of_mem_take hv)) (ov v (List.mem_of_mem_take hv))
    have h2 : (m.votes.take i).length ≤ 40 := by rw [List.length_take]; have := fv.1; omega
    exact Nat.le_trans h1 (Nat.mul_le_mul_left _ h2)
  refine W.loopC (D := Nat) (fun i => [(55, .row (m.votes.getD i default).cells), (60, .res (os (itoa (m.votes.getD i default).bal))), (69, .res (os (entText (m.votes.getD i default).e)))]) TTok hmo
    (fun i => ⟨73, 1, [(1, .one (.ptr 0 0 0)), (4, os (msgHead m ++ votesText (m.votes.take i))), (51, .one (.ag (m.votes.map Vote.cells))), (52, oi m.votes.length), (53, oi i)], [(0, .box (m.cells.map MC.toA))]⟩) (fun i => m.votes.length - i) (fun i => i ≤ m.votes.length) 0 [] (Nat.zero_le _) ?_ ?_
  · repeat' (first | exact trivial | exact ⟨trivial⟩ | exact Side.mk rfl | exact sF1 rfl | exact Chk.mk (by kernel_rfl) | exact ⟨Chk.mk (by kernel_rfl)⟩ | exact ⟨by simp only [lit1, lit2, str_app, msgHead, votesText, List.append_assoc, List.take_zero, List.flatMap_nil, List.append_nil]⟩ | refine And.intro ?_ ?_ | rfl)
  · intro i hi
    have fi : i < m.votes.length → VoteF (m.votes.getD i default) := fun h => fv.2 _ (getD_mem h)
    have oi' : i < m.votes.length → (m.votes.getD i default).ok lim := fun h => ov _ (getD_mem h)
    have gi := gl i
    repeat' (first | refine And.intro ?_ ?_ | exact tf | exact ft | refine tt ?_ | refine ff ?_ | exact ⟨trivial⟩ | exact sAll rfl | exact sF1 rfl | exact sBld (by repeat' (first | exact trivial | rfl | exact Nat.le_of_ble_eq_true rfl | refine And.intro ?_ ?_)) rfl | exact sBS (by repeat' (first | exact trivial | rfl | exact Nat.le_of_ble_eq_true rfl | refine And.intro ?_ ?_)) rfl rfl rfl rfl | exact sBSF (by repeat' (first | exact trivial | rfl | exact Nat.le_of_ble_eq_true rfl | refine And.intro ?_ ?_)) rfl rfl rfl rfl | exact sLe rfl | exact Chk.mk (by kernel_rfl) | exact ⟨Chk.mk (by kernel_rfl)⟩ | exact sLeEq rfl rfl | refine fun h => ?_)
    all_goals simp only [decide_eq_true_eq, decide_eq_false_iff_not, List.length_map, Bool.not_eq_true', Bool.not_eq_false', Bool.not_eq_eq_eq_not, Bool.not_true, Bool.not_false, bne_iff_ne, ne_eq, bne_eq_false_iff_eq, beq_iff_eq, beq_eq_false_iff_ne] at *
    all_goals try (exact sRow (by omega) (row_at m.votes _ (by omega)) rfl)
    all_goals try (exact sAnd (by repeat' constructor) (c_Itoa _ (by have := (fi (by omega)).bal; omega) (by have := (fi (by omega)).bal; omega)))
    all_goals try (exact sAnd (by repeat' constructor) (c_impl_MsgEntry _ (entryOk_int ((fi (by omega)).e (by omega))) (oi' (by omega))))
    all_goals try (have b := fi (by omega); have l := itoa_len (n := (m.votes.getD i default).bal) (by have := b.bal; omega) (by have := b.bal; omega); refine ⟨?_⟩; simp only [lit1, lit2, str_app, str_size, List.length_append, List.length_cons, List.length_nil]; omega)
    all_goals try (have b := fi (by omega); have l := itoa_len (n := (m.votes.getD i default).bal) (by have := b.bal; omega) (by have := b.bal; omega); have l2 := ent_len (entryOk_int (b.e (by omega))) (oi' (by omega)); refine ⟨?_⟩; simp only [lit1, lit2, str_app, str_size, List.length_append, List.length_cons, List.length_nil]; omega)
    · have ev : voteText (m.votes.getD i default) = [32] ++ itoa (m.votes.getD i default).bal ++ entText (m.votes.getD i default).e := by unfold voteText; rw [if_neg (by omega)]
      refine ⟨i + 1, [], by omega, by omega, ?_⟩
      repeat' (first | exact trivial | exact ⟨trivial⟩ | exact Side.mk rfl | exact sF1 rfl | exact Chk.mk (by kernel_rfl) | exact ⟨Chk.mk (by kernel_rfl)⟩ | exact ⟨by rw [wrapi] <;> omega⟩ | exact ⟨by rw [votesText_step (by omega), ev]; simp only [lit1, lit2, str_app, List.append_assoc]⟩ | refine And.intro ?_ ?_ | rfl)
    · have hz : (m.votes.getD i default).bal = 0 := by omega
      have ev : voteText (m.votes.getD i default) = [32] ++ itoa (m.votes.getD i default).bal := by unfold voteText; rw [if_pos hz, List.append_nil]
      refine ⟨i + 1, [], by omega, by omega, ?_⟩
      repeat' (first | exact trivial | exact ⟨trivial⟩ | exact Side.mk rfl | exact sF1 rfl | exact Chk.mk (by kernel_rfl) | exact ⟨Chk.mk (by kernel_rfl)⟩ | exact ⟨by rw [wrapi] <;> omega⟩ | exact ⟨by rw [votesText_step (by omega), ev]; simp only [lit1, lit2, str_app, List.append_assoc]⟩ | refine And.intro ?_ ?_ | rfl)
    · rw [show msgTail m = votesText m.votes by unfold msgTail; rw [if_neg (by omega), if_pos (by omega)], List.take_of_length_le (by omega)]
      exact ⟨⟨trivial, trivial⟩, rfl, trivial⟩
end Mg

/- The law of messages' texts, walked. No condition. -/
namespace Mg
open Go Go.RowKit Go.Lib
set_option maxRecDepth 100000
set_option linter.unusedVariables false
set_option linter.unusedSimpArgs false
attribute [local irreducible] W Pure
set_option maxHeartbeats 4000000 in
theorem c_FnExactMsgText (a : Msg) (ha : a.ok maxLen) : Pure PP false 7 [.agg a.cells] (ob true) := by
  by_cases h1 : szMsg a 1048576 < 0
  · refine Pure.vc [(9, .res (oi (szMsg a 1048576)))] TTok hmo Go.Proofs.Tryd.func7 (by kernel_rfl) rfl (by kernel_rfl) ?_
    repeat' (first | refine And.intro ?_ ?_ | exact tf | exact ft | refine tt ?_ | refine ff ?_ | exact fun h => absurd h1 (of_decide_eq_false h) | exact ⟨trivial⟩ | exact sAll rfl | exact sF1 rfl | exact sBld (by repeat' (first | exact trivial | rfl | exact Nat.le_of_ble_eq_true rfl | refine And.intro ?_ ?_)) rfl | exact sBS (by repeat' (first | exact trivial | rfl | exact Nat.le_of_ble_eq_true rfl | refine And.intro ?_ ?_)) rfl rfl rfl rfl | exact sBSF (by repeat' (first | exact trivial | rfl | exact Nat.le_of_ble_eq_true rfl | refine And.intro ?_ ?_)) rfl rfl rfl rfl | exact sLe rfl | exact Chk.mk (by kernel_rfl) | exact ⟨Chk.mk (by kernel_rfl)⟩ | exact sLeEq rfl rfl | exact sAnd (by repeat' constructor) (c_szMsg _ _ (by decide) (by decide) ha) | refine fun h => ?_)
    all_goals (refine ⟨?_⟩; simp)
  have oa : a.ok lim := szMsg_ok (l := 1048576) (by decide) (by decide) (by omega)
  refine Pure.vc [(9, .res (oi (szMsg a 1048576))), (13, .res (.agg a.cells)), (14, .res (os (msgText a))), (16, .res (.agg a.cells)), (18, .res (os (msgText a))), (24, .res (.agg a.cells)), (25, .res (ob (decide (a = a))))] TTok hmo Go.Proofs.Tryd.func7 (by kernel_rfl) rfl (by kernel_rfl) ?_
  repeat' (first | refine And.intro ?_ ?_ | exact tf | exact ft | refine tt ?_ | refine ff ?_ | exact fun h => absurd (of_decide_eq_true h) h1 | exact ⟨trivial⟩ | exact sAll rfl | exact sF1 rfl | exact sBld (by repeat' (first | exact trivial | rfl | exact Nat.le_of_ble_eq_true rfl | refine And.intro ?_ ?_)) rfl | exact sBS (by repeat' (first | exact trivial | rfl | exact Nat.le_of_ble_eq_true rfl | refine And.intro ?_ ?_)) rfl rfl rfl rfl | exact sBSF (by repeat' (first | exact trivial | rfl | exact Nat.le_of_ble_eq_true rfl | refine And.intro ?_ ?_)) rfl rfl rfl rfl | exact sLe rfl | exact Chk.mk (by kernel_rfl) | exact ⟨Chk.mk (by kernel_rfl)⟩ | exact sLeEq rfl rfl | exact sAnd (by repeat' constructor) (c_szMsg _ _ (by decide) (by decide) ha) | exact sAnd (by repeat' constructor) (c_toMsg _ oa) | exact sAnd (by repeat' constructor) (c_spec_MsgText _ oa) | exact sAnd (by repeat' constructor) (c_impl_MsgText _ oa) | exact sAnd (by repeat' constructor) (c_eqMsg _ _ oa oa) | refine fun h => ?_)
  all_goals (refine ⟨?_⟩; simp_all)
end Mg
