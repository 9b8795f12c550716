/- Parts of the abstract state logic and of the walks, one behind the other: TX3, TX4, M1, TX7, DI1, D8. No condition. -/
import Derived.Test.YtedgmfmhilihoaaDoorP16
import Derived.Test.YtedgmfmhilihoaaDoorP15
/- An entry, written by the other side. No condition. -/
namespace Mg
open Go Go.RowKit Go.Lib
set_option maxRecDepth 100000
set_option linter.unusedVariables false
set_option linter.unusedSimpArgs false
attribute [local irreducible] W Pure
theorem lit1 (l : List UInt8) : ByteArray.mk (Array.mk l) = str l := rfl
theorem lit2 (l : List UInt8) : ByteArray.mk (List.toArray l) = str l := rfl
def I6 (n : Int) : Prop := -9223372036854775808 ≤ n ∧ n ≤ 9223372036854775807
def Two.int (x : Two) : Prop := I6 x.a ∧ I6 x.b
structure Entry.int (e : Entry) : Prop where
  q : e.q.int
  r : ∀ x ∈ e.run.reads, x.int
  p : ∀ x ∈ e.run.puts, x.int
  c : I6 e.run.c
  d : I6 e.run.d
theorem I6.len {n : Int} (h : I6 n) : (itoa n).length ≤ 21 := itoa_len h.1 h.2
theorem Two.int0 : (default : Two).int := ⟨⟨by decide, by decide⟩, by decide, by decide⟩
theorem int_get {xs : List Two} (h : ∀ x ∈ xs, x.int) (i : Nat) : (xs.getD i default).int := by
  by_cases hi : i < xs.length
  · exact h _ (getD_mem hi)
  · rw [List.getD_eq_getElem?_getD, List.getElem?_eq_none (by omega)]; exact Two.int0
theorem twos_len {a b : UInt8} : ∀ {xs : List Two}, (∀ x ∈ xs, x.int) → (twosText a b xs).length ≤ 44 * xs.length
  | [], _ => Nat.le_refl _
  | x :: xs, h => by
    have h1 := twos_len (a := a) (b := b) fun y hy => h y (List.mem_cons_of_mem _ hy)
    have h2 := (h x List.mem_cons_self).1.len
    have h3 := (h x List.mem_cons_self).2.len
    rw [twosText_cons]
    simp only [twoText, List.length_append, List.length_cons]
    omega
theorem twos_take {a b : UInt8} {xs : List Two} (h : ∀ x ∈ xs, x.int) (i : Nat) : (twosText a b (xs.take i)).length ≤ 44 * xs.length := by
  have := twos_len (a := a) (b := b) (xs := xs.take i) fun x hx => h x (List.mem_of_mem_take hx)
  rw [List.length_take] at this; omega
theorem twos_step {a b : UInt8} {xs : List Two} {i : Nat} (h : i < xs.length) : twosText a b (xs.take (i + 1)) = twosText a b (xs.take i) ++ twoText a b (xs.getD i default) := by
  rw [List.take_succ_eq_append_getElem h, twosText_app, getD_get h]
  simp [twosText]
def entHead (e : Entry) : List UInt8 := itoa e.q.a ++ [46] ++ itoa e.q.b ++ [123]
theorem ent_eq {e : Entry} (h : e.none = false) : entText e = entHead e ++ twosText 63 47 e.run.reads ++ twosText 33 61 e.run.puts ++ [125] ++ itoa e.run.c ++ [58] ++ itoa e.run.d := by
  simp [entText, h, entHead]
theorem two_eq (a b : UInt8) (x : Two) : [a] ++ itoa x.a ++ [b] ++ itoa x.b = twoText a b x := by simp [twoText]
set_option maxHeartbeats 4000000 in
theorem c_spec_MsgEntry (e : Entry) (he : e.int) (ho : e.ok lim) : Pure PP false 10 [.agg e.cells] (os (entText e)) := by
  have hr0 : e.run.reads.length ≤ 1048576 := ho.1
  have hp0 : e.run.puts.length ≤ 1048576 := ho.2
  have l1 := he.q.1.len
  have l2 := he.q.2.len
  have l3 := he.c.len
  have l4 := he.d.len
  have g1 := fun i => twos_take (a := 63) (b := 47) he.r i
  have g2 := fun i => twos_take (a := 33) (b := 61) he.p i
  have g3 := twos_len (a := 63) (b := 47) he.r
  refine Pure.vc [(11, .res (os (itoa e.q.a))), (16, .res (os (itoa e.q.b))), (82, .res (os (itoa e.run.c))), (88, .res (os (itoa e.run.d))), (940012, .row [i6 13])] TTok hmo Go.Proofs.Tryd.func10 (by kernel_rfl) rfl (by kernel_rfl) ?_
  repeat' (first | refine And.intro ?_ ?_ | exact tf | exact ft | refine tt ?_ | refine ff ?_ | exact ⟨trivial⟩ | exact sAll rfl | exact sF1 rfl | exact sBld (by repeat' (first | exact trivial | rfl | exact Nat.le_of_ble_eq_true rfl | refine And.intro ?_ ?_)) rfl | exact sBS (by repeat' (first | exact trivial | rfl | exact Nat.le_of_ble_eq_true rfl | refine And.intro ?_ ?_)) rfl rfl rfl rfl | exact sBSF (by repeat' (first | exact trivial | rfl | exact Nat.le_of_ble_eq_true rfl | refine And.intro ?_ ?_)) rfl rfl rfl rfl | exact sLe rfl | exact Chk.mk (by kernel_rfl) | exact ⟨Chk.mk (by kernel_rfl)⟩ | exact sLeEq rfl rfl | exact sAnd (by repeat' constructor) (c_l15Dec _ he.q.1.1 he.q.1.2) | exact sAnd (by repeat' constructor) (c_l15Dec _ he.q.2.1 he.q.2.2) | refine fun h => ?_)
  all_goals simp only [decide_eq_true_eq, decide_eq_false_iff_not, List.length_map, Bool.not_eq_true', Bool.not_eq_false', Bool.not_eq_eq_eq_not, Bool.not_true, Bool.not_false, bne_iff_ne, ne_eq, bne_eq_false_iff_eq, beq_iff_eq, beq_eq_false_iff_ne] at *
  all_goals try simp only [lit1, lit2, str_app] at *
  all_goals try (refine ⟨?_⟩; simp only [str_size, List.length_append, List.length_cons, List.length_nil]; omega)
  all_goals try (rw [show entText e = [110, 111, 110, 101] by simp [entText, ‹e.none = true›]]; exact ⟨⟨trivial, trivial⟩, rfl, trivial⟩)
  have hn : e.none = false := by simpa using h
  refine W.loopC (D := Nat) (fun i => [(33, .row (e.run.reads.getD i default).cells), (43, .row (e.run.reads.getD i default).cells), (36, .res (os (itoa (e.run.reads.getD i default).a))), (46, .res (os (itoa (e.run.reads.getD i default).b))), (940007, .row [i6 21])]) TTok hmo
    (fun i => ⟨90, 1, [(1, .one (.ptr 0 0 0)), (3, os (entHead e ++ twosText 63 47 (e.run.reads.take i))), (4, oi i)], [(0, .box (e.cells.map MC.toA))]⟩) (fun i => e.run.reads.length - i) (fun i => i ≤ e.run.reads.length) 0 [] (Nat.zero_le _) ?_ ?_
  · repeat' (first | exact trivial | exact ⟨trivial⟩ | exact Side.mk rfl | exact sF1 rfl | exact Chk.mk (by kernel_rfl) | exact ⟨Chk.mk (by kernel_rfl)⟩ | exact ⟨by simp [entHead, twosText]⟩ | refine And.intro ?_ ?_ | rfl)
  · intro i hi
    have hg := int_get he.r i
    have k1 := hg.1.len
    have k2 := hg.2.len
    have k3 := g1 i
    repeat' (first | refine And.intro ?_ ?_ | exact tf | exact ft | refine tt ?_ | refine ff ?_ | exact ⟨trivial⟩ | exact sAll rfl | exact sF1 rfl | exact sBld (by repeat' (first | exact trivial | rfl | exact Nat.le_of_ble_eq_true rfl | refine And.intro ?_ ?_)) rfl | exact sBS (by repeat' (first | exact trivial | rfl | exact Nat.le_of_ble_eq_true rfl | refine And.intro ?_ ?_)) rfl rfl rfl rfl | exact sBSF (by repeat' (first | exact trivial | rfl | exact Nat.le_of_ble_eq_true rfl | refine And.intro ?_ ?_)) rfl rfl rfl rfl | exact sLe rfl | exact Chk.mk (by kernel_rfl) | exact ⟨Chk.mk (by kernel_rfl)⟩ | exact sLeEq rfl rfl | exact sAnd (by repeat' constructor) (c_l15Dec _ hg.1.1 hg.1.2) | exact sAnd (by repeat' constructor) (c_l15Dec _ hg.2.1 hg.2.2) | refine fun h => ?_)
    all_goals simp only [decide_eq_true_eq, decide_eq_false_iff_not, List.length_map, Bool.not_eq_true', Bool.not_eq_false', Bool.not_eq_eq_eq_not, Bool.not_true, Bool.not_false, bne_iff_ne, ne_eq, bne_eq_false_iff_eq, beq_iff_eq, beq_eq_false_iff_ne] at *
    all_goals try (exact sRow (by omega) (row_at e.run.reads _ (by omega)) rfl)
    all_goals try (refine ⟨?_⟩; simp only [lit1, lit2, str_app, str_size, List.length_append, List.length_cons, List.length_nil, entHead]; omega)
    · refine ⟨i + 1, [], by omega, by omega, ?_⟩
      repeat' (first | exact trivial | exact ⟨trivial⟩ | exact Side.mk rfl | exact sF1 rfl | exact Chk.mk (by kernel_rfl) | exact ⟨Chk.mk (by kernel_rfl)⟩ | exact ⟨by rw [wrapi] <;> omega⟩ | exact ⟨by simp only [lit1, lit2, str_app]; rw [twos_step (by omega), ← two_eq]; simp only [List.append_assoc]⟩ | refine And.intro ?_ ?_ | rfl)
    · have hfull : twosText 63 47 (e.run.reads.take i) = twosText 63 47 e.run.reads := by rw [List.take_of_length_le (by omega)]
      rw [hfull]
      clear hfull k1 k2 k3 hg h hi g1
      refine W.loopC (D := Nat) (fun i => [(62, .row (e.run.puts.getD i default).cells), (72, .row (e.run.puts.getD i default).cells), (65, .res (os (itoa (e.run.puts.getD i default).a))), (75, .res (os (itoa (e.run.puts.getD i default).b))), (940011, .row [i6 21])]) TTok hmo
        (fun i => ⟨90, 1, [(1, .one (.ptr 0 0 0)), (3, os (entHead e ++ twosText 63 47 e.run.reads ++ twosText 33 61 (e.run.puts.take i))), (5, oi i)], [(0, .box (e.cells.map MC.toA))]⟩) (fun i => e.run.puts.length - i) (fun i => i ≤ e.run.puts.length) 0 [] (Nat.zero_le _) ?_ ?_
      · repeat' (first | exact trivial | exact ⟨trivial⟩ | exact Side.mk rfl | exact sF1 rfl | exact Chk.mk (by kernel_rfl) | exact ⟨Chk.mk (by kernel_rfl)⟩ | exact ⟨by simp [twosText]⟩ | refine And.intro ?_ ?_ | rfl)
      · intro i hi
        have hg := int_get he.p i
        have k1 := hg.1.len
        have k2 := hg.2.len
        have k3 := g2 i
        repeat' (first | refine And.intro ?_ ?_ | exact tf | exact ft | refine tt ?_ | refine ff ?_ | exact ⟨trivial⟩ | exact sAll rfl | exact sF1 rfl | exact sBld (by repeat' (first | exact trivial | rfl | exact Nat.le_of_ble_eq_true rfl | refine And.intro ?_ ?_)) rfl | exact sBS (by repeat' (first | exact trivial | rfl | exact Nat.le_of_ble_eq_true rfl | refine And.intro ?_ ?_)) rfl rfl rfl rfl | exact sBSF (by repeat' (first | exact trivial | rfl | exact Nat.le_of_ble_eq_true rfl | refine And.intro ?_ ?_)) rfl rfl rfl rfl | exact sLe rfl | exact Chk.mk (by kernel_rfl) | exact ⟨Chk.mk (by kernel_rfl)⟩ | exact sLeEq rfl rfl | exact sAnd (by repeat' constructor) (c_l15Dec _ hg.1.1 hg.1.2) | exact sAnd (by repeat' constructor) (c_l15Dec _ hg.2.1 hg.2.2) | exact sAnd (by repeat' constructor) (c_l15Dec _ he.c.1 he.c.2) | exact sAnd (by repeat' constructor) (c_l15Dec _ he.d.1 he.d.2) | refine fun h => ?_)
        all_goals simp only [decide_eq_true_eq, decide_eq_false_iff_not, List.length_map, Bool.not_eq_true', Bool.not_eq_false', Bool.not_eq_eq_eq_not, Bool.not_true, Bool.not_false, bne_iff_ne, ne_eq, bne_eq_false_iff_eq, beq_iff_eq, beq_eq_false_iff_ne] at *
        all_goals try (exact sRow (by omega) (row_at e.run.puts _ (by omega)) rfl)
        all_goals try (refine ⟨?_⟩; simp only [lit1, lit2, str_app, str_size, List.length_append, List.length_cons, List.length_nil, entHead]; omega)
        · refine ⟨i + 1, [], by omega, by omega, ?_⟩
          repeat' (first | exact trivial | exact ⟨trivial⟩ | exact Side.mk rfl | exact sF1 rfl | exact Chk.mk (by kernel_rfl) | exact ⟨Chk.mk (by kernel_rfl)⟩ | exact ⟨by rw [wrapi] <;> omega⟩ | exact ⟨by simp only [lit1, lit2, str_app]; rw [twos_step (by omega), ← two_eq]; simp only [List.append_assoc]⟩ | refine And.intro ?_ ?_ | rfl)
        · rw [List.take_of_length_le (by omega), ent_eq hn]
          exact ⟨⟨trivial, trivial⟩, by simp only [lit1, lit2, str_app], trivial⟩
end Mg

/- An entry, written by the program. No condition. -/
namespace Mg
open Go Go.RowKit Go.Lib
set_option maxRecDepth 100000
set_option linter.unusedVariables false
set_option linter.unusedSimpArgs false
attribute [local irreducible] W WB Pure
theorem str_list (l : List UInt8) : (str l).data.toList = l := rfl
set_option maxHeartbeats 4000000 in
theorem c_impl_MsgEntry (e : Entry) (he : e.int) (ho : e.ok lim) : Pure PP false 12 [.agg e.cells] (os (entText e)) := by
  have hr0 : e.run.reads.length ≤ 1048576 := ho.1
  have hp0 : e.run.puts.length ≤ 1048576 := ho.2
  have l1 := he.q.1.len
  have l2 := he.q.2.len
  have l3 := he.c.len
  have l4 := he.d.len
  have g1 := fun i => twos_take (a := 63) (b := 47) he.r i
  have g2 := fun i => twos_take (a := 33) (b := 61) he.p i
  have g3 := twos_len (a := 63) (b := 47) he.r
  have g4 := twos_len (a := 33) (b := 61) he.p
  refine Pure.vcB (fw := 35) (fs := 37) (ft := 74) [(13, .res (os (itoa e.q.a))), (18, .res (os (itoa e.q.b))), (63, .res (os (itoa e.run.c))), (69, .res (os (itoa e.run.d)))] TTok hmo layB rfl rfl rfl Go.Proofs.Tryd.func12 (by kernel_rfl) rfl (by kernel_rfl) ?_
  intro A U
  repeat' (first | refine And.intro ?_ ?_ | exact trivial | exact rfl | exact Side.mk (Eq.refl (_ : Nat)) | exact tf | exact ft | refine tt ?_ | refine ff ?_ | exact ⟨trivial⟩ | exact sAll rfl | exact sF1 rfl | exact sBld (by repeat' (first | exact trivial | rfl | exact Nat.le_of_ble_eq_true rfl | refine And.intro ?_ ?_)) rfl | exact sBS (by repeat' (first | exact trivial | rfl | exact Nat.le_of_ble_eq_true rfl | refine And.intro ?_ ?_)) rfl rfl rfl rfl | exact sBSF (by repeat' (first | exact trivial | rfl | exact Nat.le_of_ble_eq_true rfl | refine And.intro ?_ ?_)) rfl rfl rfl rfl | exact sLe rfl | exact Chk.mk (by kernel_rfl) | exact ⟨Chk.mk (by kernel_rfl)⟩ | exact sLeEq rfl rfl | exact sAnd (by repeat' constructor) (c_Itoa _ he.q.1.1 he.q.1.2) | exact sAnd (by repeat' constructor) (c_Itoa _ he.q.2.1 he.q.2.2) | refine fun h => ?_)
  all_goals try simp only [decide_eq_true_eq, decide_eq_false_iff_not, List.length_map, Bool.not_eq_true', Bool.not_eq_false', Bool.not_eq_eq_eq_not, Bool.not_true, Bool.not_false, bne_iff_ne, ne_eq, bne_eq_false_iff_eq, beq_iff_eq, beq_eq_false_iff_ne] at *
  all_goals try simp only [lit1, lit2, str_app] at *
  all_goals try (refine ⟨?_⟩; simp only [str_size, List.length_append, List.length_cons, List.length_nil]; omega)
  all_goals try (rw [show entText e = [110, 111, 110, 101] by simp [entText, ‹e.none = true›]]; exact ⟨⟨trivial, trivial⟩, rfl, trivial⟩)
  have hn : e.none = false := ‹e.none = false›
  rename Nat => nb
  refine WB.loopC (fw := 35) (fs := 37) (ft := 74) (D := Nat) (fun i => [(28, .row (e.run.reads.getD i default).cells), (32, .res (os (itoa (e.run.reads.getD i default).a))), (37, .res (os (itoa (e.run.reads.getD i default).b)))]) TTok hmo layB rfl rfl rfl
    (fun i => ⟨73, 1, [(1, .one (.ptr 0 0 0)), (3, .one (.sc (.pointer (some ⟨nb, 0, none⟩)))), (24, .one (.tr false A (U 0 3) (e.run.reads.map Two.cells))), (25, oi e.run.reads.length), (26, oi i)], [(0, .box [bo e.none, i6 e.q.a, i6 e.q.b, .tr false A (U 0 3) (e.run.reads.map Two.cells), .tr false A (U 0 4) (e.run.puts.map Two.cells), i6 e.run.c, i6 e.run.d])]⟩)
    (fun i => some (nb, entHead e ++ twosText 63 47 (e.run.reads.take i))) (fun i => e.run.reads.length - i) (fun i => i ≤ e.run.reads.length) 0 [] ⟨Nat.zero_le _, ?_⟩ (fun _ => rfl) ?_ ?_
  · exact ⟨by simp [entHead, twosText, str_list]⟩
  · repeat' (first | exact trivial | exact ⟨trivial⟩ | exact Side.mk rfl | exact sF1 rfl | exact Chk.mk (by kernel_rfl) | exact ⟨Chk.mk (by kernel_rfl)⟩ | refine And.intro ?_ ?_ | rfl)
  · intro i hi
    have hg := int_get he.r i
    have k1 := hg.1.len
    have k2 := hg.2.len
    have k3 := g1 i
    repeat' (first | refine And.intro ?_ ?_ | exact trivial | exact rfl | exact Side.mk (Eq.refl (_ : Nat)) | exact tf | exact ft | refine tt ?_ | refine ff ?_ | exact ⟨trivial⟩ | exact sAll rfl | exact sF1 rfl | exact sBld (by repeat' (first | exact trivial | rfl | exact Nat.le_of_ble_eq_true rfl | refine And.intro ?_ ?_)) rfl | exact sBS (by repeat' (first | exact trivial | rfl | exact Nat.le_of_ble_eq_true rfl | refine And.intro ?_ ?_)) rfl rfl rfl rfl | exact sBSF (by repeat' (first | exact trivial | rfl | exact Nat.le_of_ble_eq_true rfl | refine And.intro ?_ ?_)) rfl rfl rfl rfl | exact sLe rfl | exact Chk.mk (by kernel_rfl) | exact ⟨Chk.mk (by kernel_rfl)⟩ | exact sLeEq rfl rfl | exact sAnd (by repeat' constructor) (c_Itoa _ hg.1.1 hg.1.2) | exact sAnd (by repeat' constructor) (c_Itoa _ hg.2.1 hg.2.2) | refine fun h => ?_)
    all_goals try simp only [decide_eq_true_eq, decide_eq_false_iff_not, List.length_map, Bool.not_eq_true', Bool.not_eq_false', Bool.not_eq_eq_eq_not, Bool.not_true, Bool.not_false, bne_iff_ne, ne_eq, bne_eq_false_iff_eq, beq_iff_eq, beq_eq_false_iff_ne] at *
    all_goals try (exact sRow (by omega) (row_at e.run.reads _ (by omega)) rfl)
    all_goals try (refine ⟨?_⟩; simp only [lit1, lit2, str_app, str_size, List.length_append, List.length_cons, List.length_nil, entHead]; omega)
    · refine ⟨i + 1, [], by omega, ⟨by omega, ⟨?_⟩⟩, ?_⟩
      · simp only [lit1, lit2, str_app, str_list]; rw [twos_step (by omega), ← two_eq]; simp only [List.append_assoc]
      · repeat' (first | exact trivial | exact ⟨trivial⟩ | exact Side.mk rfl | exact sF1 rfl | exact Chk.mk (by kernel_rfl) | exact ⟨Chk.mk (by kernel_rfl)⟩ | exact ⟨by rw [wrapi] <;> omega⟩ | refine And.intro ?_ ?_ | rfl)
    · have hfull : twosText 63 47 (e.run.reads.take i) = twosText 63 47 e.run.reads := by rw [List.take_of_length_le (by omega)]
      rw [hfull]
      clear hfull k1 k2 k3 hg h hi g1
      refine WB.loopC (fw := 35) (fs := 37) (ft := 74) (D := Nat) (fun i => [(47, .row (e.run.puts.getD i default).cells), (51, .res (os (itoa (e.run.puts.getD i default).a))), (56, .res (os (itoa (e.run.puts.getD i default).b)))]) TTok hmo layB rfl rfl rfl
        (fun i => ⟨73, 1, [(1, .one (.ptr 0 0 0)), (3, .one (.sc (.pointer (some ⟨nb, 0, none⟩)))), (43, .one (.tr false A (U 0 4) (e.run.puts.map Two.cells))), (44, oi e.run.puts.length), (45, oi i)], [(0, .box [bo e.none, i6 e.q.a, i6 e.q.b, .tr false A (U 0 3) (e.run.reads.map Two.cells), .tr false A (U 0 4) (e.run.puts.map Two.cells), i6 e.run.c, i6 e.run.d])]⟩)
        (fun i => some (nb, entHead e ++ twosText 63 47 e.run.reads ++ twosText 33 61 (e.run.puts.take i))) (fun i => e.run.puts.length - i) (fun i => i ≤ e.run.puts.length) 0 [] ⟨Nat.zero_le _, ?_⟩ (fun _ => rfl) ?_ ?_
      · exact ⟨by simp [twosText]⟩
      · repeat' (first | exact trivial | exact ⟨trivial⟩ | exact Side.mk rfl | exact sF1 rfl | exact Chk.mk (by kernel_rfl) | exact ⟨Chk.mk (by kernel_rfl)⟩ | refine And.intro ?_ ?_ | rfl)
      · intro i hi
        have hg := int_get he.p i
        have k1 := hg.1.len
        have k2 := hg.2.len
        have k3 := g2 i
        repeat' (first | refine And.intro ?_ ?_ | exact trivial | exact rfl | exact Side.mk (Eq.refl (_ : Nat)) | exact tf | exact ft | refine tt ?_ | refine ff ?_ | exact ⟨trivial⟩ | exact sAll rfl | exact sF1 rfl | exact sBld (by repeat' (first | exact trivial | rfl | exact Nat.le_of_ble_eq_true rfl | refine And.intro ?_ ?_)) rfl | exact sBS (by repeat' (first | exact trivial | rfl | exact Nat.le_of_ble_eq_true rfl | refine And.intro ?_ ?_)) rfl rfl rfl rfl | exact sBSF (by repeat' (first | exact trivial | rfl | exact Nat.le_of_ble_eq_true rfl | refine And.intro ?_ ?_)) rfl rfl rfl rfl | exact sLe rfl | exact Chk.mk (by kernel_rfl) | exact ⟨Chk.mk (by kernel_rfl)⟩ | exact sLeEq rfl rfl | exact sAnd (by repeat' constructor) (c_Itoa _ hg.1.1 hg.1.2) | exact sAnd (by repeat' constructor) (c_Itoa _ hg.2.1 hg.2.2) | exact sAnd (by repeat' constructor) (c_Itoa _ he.c.1 he.c.2) | exact sAnd (by repeat' constructor) (c_Itoa _ he.d.1 he.d.2) | refine fun h => ?_)
        all_goals try simp only [decide_eq_true_eq, decide_eq_false_iff_not, List.length_map, Bool.not_eq_true', Bool.not_eq_false', Bool.not_eq_eq_eq_not, Bool.not_true, Bool.not_false, bne_iff_ne, ne_eq, bne_eq_false_iff_eq, beq_iff_eq, beq_eq_false_iff_ne] at *
        all_goals try (exact sRow (by omega) (row_at e.run.puts _ (by omega)) rfl)
        all_goals try (refine ⟨?_⟩; simp only [lit1, lit2, str_app, str_size, List.length_append, List.length_cons, List.length_nil, entHead]; omega)
        · refine ⟨i + 1, [], by omega, ⟨by omega, ⟨?_⟩⟩, ?_⟩
          · simp only [lit1, lit2, str_app, str_list]; rw [twos_step (by omega), ← two_eq]; simp only [List.append_assoc]
          · repeat' (first | exact trivial | exact ⟨trivial⟩ | exact Side.mk rfl | exact sF1 rfl | exact Chk.mk (by kernel_rfl) | exact ⟨Chk.mk (by kernel_rfl)⟩ | exact ⟨by rw [wrapi] <;> omega⟩ | refine And.intro ?_ ?_ | rfl)
        · rw [List.take_of_length_le (by omega), ent_eq hn]
          exact ⟨⟨trivial, trivial⟩, by simp only [lit1, lit2, str_app, str_list, List.append_assoc], trivial⟩
end Mg

/- Messages that are right. No condition. -/
namespace Mg
open Go Go.RowKit
set_option maxRecDepth 100000
set_option linter.unusedVariables false
set_option linter.unusedSimpArgs false
attribute [local irreducible] W Pure
theorem c_l7None (e : Entry) (he : e.ok lim) : Pure PP false 50 [.agg e.cells] (ob (decide (e = zeroE false))) := by
  obtain ⟨n, ⟨q1, q2⟩, r⟩ := e
  refine Pure.vc [(16, .res (ob (decide (r = zeroRun))))] TTok hmo Go.Proofs.Tryd.func50 (by kernel_rfl) rfl (by kernel_rfl) ?_
  repeat' (first | refine And.intro ?_ ?_ | exact tf | exact ft | refine tt ?_ | refine ff ?_ | exact ⟨trivial⟩ | exact sAll rfl | exact sF1 rfl | exact sBld (by repeat' (first | exact trivial | rfl | exact Nat.le_of_ble_eq_true rfl | refine And.intro ?_ ?_)) rfl | exact sBS (by repeat' (first | exact trivial | rfl | exact Nat.le_of_ble_eq_true rfl | refine And.intro ?_ ?_)) rfl rfl rfl rfl | exact sBSF (by repeat' (first | exact trivial | rfl | exact Nat.le_of_ble_eq_true rfl | refine And.intro ?_ ?_)) rfl rfl rfl rfl | exact sLe rfl | exact Chk.mk (by kernel_rfl) | exact ⟨Chk.mk (by kernel_rfl)⟩ | exact sLeEq rfl rfl | exact sAnd (by repeat' constructor) (c_spec_ExecSame _ zeroRun he zeroRun_ok) | refine fun h => ?_)
  all_goals (refine Side.mk ?_; simp_all [zeroE])
  all_goals repeat' (first | rfl | refine And.intro ?_ ?_)
theorem wsum {a : Int} {n : Nat} (h : inr a 0 40 = true) (hn : n ≤ 1048576) : IntKind.i64.wrap (a + n) = a + n := by
  simp only [inr, Bool.and_eq_true, decide_eq_true_eq] at h
  rw [wrapi] <;> omega
/-- As the one walk has it. -/
def msgOkS (k f t b s : Int) (e : Entry) (vs : List Vote) : Bool :=
  if (decide (f < 0) || decide (f ≥ 3) || decide (t < 0) || decide (t ≥ 3) || f == t || decide (s < 0) || decide (s > 40) || ((k != 2) && decide (((vs.map Vote.cells).length : Int) > 0))) = true then false else
   if (k == 1) = true then inr b 1 3000 && decide (e = zeroE false) else
   if (k == 2) = true then inr b 1 3000 && decide (e = zeroE false) && votesOk vs && decide (IntKind.i64.wrap (s + (vs.map Vote.cells).length) ≤ 40) else
   if (k == 3) = true then inr b 1 3000 && (entryOk e && decide (s < 40)) else
   if (k == 4) = true then inr b 1 3000 && decide (e = zeroE false) else
   if (k == 5) = true then b == 0 && (entryOk e && decide (s < 40)) else
   if (k == 6) = true then inr b 1 3000 && decide (e = zeroE false) && s == 0 else
   if (k == 7) = true then b == 0 && s == 0 && entryOk e && !e.none else
   if (k == 8) = true then b == 0 && decide (e = zeroE false) else false
set_option maxHeartbeats 4000000 in
theorem c_spec_MsgOk (m : Msg) (hm : m.ok lim) : Pure PP false 21 [.agg m.cells] (ob (msgOkS m.kind m.src m.dst m.bal m.slot m.e m.votes)) := by
  obtain ⟨k, f, t, b, s, ⟨n, q, r⟩, vs⟩ := m
  have hl : vs.length ≤ 1048576 := hm.2.1
  refine Pure.vc [(53, .res (ob (decide (Entry.mk n q r = zeroE false)))), (56, .res (ob (entryOk ⟨n, q, r⟩))), (68, .res (ob (inr b 1 3000))), (76, .res (ob (inr b 1 3000))), (83, .res (ob (votesOk vs))), (98, .res (ob (inr b 1 3000))), (106, .res (ob (inr b 1 3000))), (122, .res (ob (inr b 1 3000))), (144, .res (ob (entryOk ⟨n, q, r⟩)))] TTok hmo Go.Proofs.Tryd.func21 (by kernel_rfl) rfl (by kernel_rfl) ?_
  repeat' (first | refine And.intro ?_ ?_ | exact tf | exact ft | refine tt ?_ | refine ff ?_ | exact ⟨trivial⟩ | exact sAll rfl | exact sF1 rfl | exact sBld (by repeat' (first | exact trivial | rfl | exact Nat.le_of_ble_eq_true rfl | refine And.intro ?_ ?_)) rfl | exact sBS (by repeat' (first | exact trivial | rfl | exact Nat.le_of_ble_eq_true rfl | refine And.intro ?_ ?_)) rfl rfl rfl rfl | exact sBSF (by repeat' (first | exact trivial | rfl | exact Nat.le_of_ble_eq_true rfl | refine And.intro ?_ ?_)) rfl rfl rfl rfl | exact sLe rfl | exact Chk.mk (by kernel_rfl) | exact ⟨Chk.mk (by kernel_rfl)⟩ | exact sLeEq rfl rfl | exact sAnd (by repeat' constructor) (c_l7None ⟨n, q, r⟩ hm.1) | exact sAnd (by repeat' constructor) (c_spec_CertEntry ⟨n, q, r⟩ hm.1) | exact sAnd (by repeat' constructor) (c_l6Bal _) | exact sAnd (by repeat' constructor) (c_l6Votes _ (Nat.le_trans hm.2.1 (by decide)) hm.2.2) | refine fun h => ?_)
  all_goals (refine Side.mk ?_)
  all_goals try dsimp only at *
  all_goals try (simp only [msgOkS, *, Bool.or_false, Bool.false_or, Bool.true_and, Bool.and_true, Bool.false_and, Bool.and_false, Bool.or_true, Bool.true_or, if_true, if_false, Bool.false_eq_true, reduceIte, and_self, Bool.not_true, Bool.not_false]; done)
  all_goals try (simp_all [msgOkS]; done)
theorem rng2 {n : Int} : (decide (n < 0) || decide (n ≥ 3)) = !inr n 0 2 := by
  unfold inr
  by_cases h1 : n < 0 <;> by_cases h2 : n ≥ 3 <;> simp [h1, h2] <;> omega
theorem rng40 {n : Int} : (decide (n < 0) || decide (n > 40)) = !inr n 0 40 := by
  unfold inr
  by_cases h1 : n < 0 <;> by_cases h2 : n > 40 <;> simp [h1, h2] <;> omega
/-- As the other walk has it. -/
def msgOkI (k f t b s : Int) (e : Entry) (vs : List Vote) : Bool :=
  if (!inr f 0 2 || !inr t 0 2 || f == t || !inr s 0 40) = true then false else
   if (k == 1) = true then inr b 1 3000 && decide (e = zeroE false) && ((vs.map Vote.cells).length : Int) == 0 else
   if (k == 4) = true then inr b 1 3000 && decide (e = zeroE false) && ((vs.map Vote.cells).length : Int) == 0 else
   if (k == 2) = true then inr b 1 3000 && decide (e = zeroE false) && votesOk vs && decide (IntKind.i64.wrap (s + (vs.map Vote.cells).length) ≤ 40) else
   if (k == 3) = true then inr b 1 3000 && decide (s < 40) && entryOk e && ((vs.map Vote.cells).length : Int) == 0 else
   if (k == 5) = true then b == 0 && decide (s < 40) && entryOk e && ((vs.map Vote.cells).length : Int) == 0 else
   if (k == 6) = true then inr b 1 3000 && s == 0 && decide (e = zeroE false) && ((vs.map Vote.cells).length : Int) == 0 else
   if (k == 7) = true then b == 0 && s == 0 && entryOk e && !e.none && ((vs.map Vote.cells).length : Int) == 0 else
   if (k == 8) = true then b == 0 && decide (e = zeroE false) && ((vs.map Vote.cells).length : Int) == 0 else false
theorem msgOk_eq (k f t b s : Int) (e : Entry) (vs : List Vote) : msgOkI k f t b s e vs = msgOkS k f t b s e vs := by
  have hS : (decide (f < 0) || decide (f ≥ 3) || decide (t < 0) || decide (t ≥ 3) || f == t || decide (s < 0) || decide (s > 40) || ((k != 2) && decide (((vs.map Vote.cells).length : Int) > 0))) = ((!inr f 0 2 || !inr t 0 2 || f == t || !inr s 0 40) || ((k != 2) && decide (((vs.map Vote.cells).length : Int) > 0))) := by
    rw [← rng2, ← rng2, ← rng40]
    simp only [Bool.or_assoc]
  unfold msgOkI msgOkS
  rw [hS]
  generalize (!inr f 0 2 || !inr t 0 2 || f == t || !inr s 0 40) = A
  cases A
  · generalize inr b 1 3000 = B
    generalize entryOk e = C
    generalize decide (e = zeroE false) = D
    generalize decide (s < 40) = E
    generalize (s == 0) = G
    generalize (b == 0) = H
    generalize e.none = I
    have hl : (((vs.map Vote.cells).length : Int) == 0) = !decide (((vs.map Vote.cells).length : Int) > 0) := by
      by_cases h : (((vs.map Vote.cells).length : Int)) = 0
      · rw [h]; rfl
      · have : (((vs.map Vote.cells).length : Int)) > 0 := by omega
        simp only [decide_eq_true this, Bool.not_true, beq_eq_false_iff_ne]; exact h
    rw [hl]
    generalize decide (((vs.map Vote.cells).length : Int) > 0) = N
    by_cases h1 : k = 1 <;> by_cases h2 : k = 2 <;> by_cases h3 : k = 3 <;> by_cases h4 : k = 4 <;> by_cases h5 : k = 5 <;> by_cases h6 : k = 6 <;> by_cases h7 : k = 7 <;> by_cases h8 : k = 8
    all_goals try (exfalso; omega)
    all_goals cases N <;> simp [h1, h2, h3, h4, h5, h6, h7, h8]
    all_goals (cases B <;> cases C <;> cases D <;> cases E <;> cases H <;> cases G <;> rfl)
  · simp
set_option maxHeartbeats 4000000 in
theorem c_impl_MsgOk (m : Msg) (hm : m.ok lim) : Pure PP false 20 [.agg m.cells] (ob (msgOkI m.kind m.src m.dst m.bal m.slot m.e m.votes)) := by
  obtain ⟨k, f, t, b, s, ⟨n, q, r⟩, vs⟩ := m
  have hl : vs.length ≤ 1048576 := hm.2.1
  refine Pure.vc [(8, .res (ob (inr f 0 2))), (13, .res (ob (inr t 0 2))), (26, .res (ob (inr s 0 40))), (31, .res (ob (inr b 1 3000))), (35, .res (ob (decide (Entry.mk n q r = zeroE false)))), (61, .res (ob (votesOk vs))), (83, .res (ob (entryOk ⟨n, q, r⟩))), (101, .res (ob (entryOk ⟨n, q, r⟩))), (133, .res (ob (entryOk ⟨n, q, r⟩)))] TTok hmo Go.Proofs.Tryd.func20 (by kernel_rfl) rfl (by kernel_rfl) ?_
  repeat' (first | refine And.intro ?_ ?_ | exact tf | exact ft | refine tt ?_ | refine ff ?_ | exact ⟨trivial⟩ | exact sAll rfl | exact sF1 rfl | exact sBld (by repeat' (first | exact trivial | rfl | exact Nat.le_of_ble_eq_true rfl | refine And.intro ?_ ?_)) rfl | exact sBS (by repeat' (first | exact trivial | rfl | exact Nat.le_of_ble_eq_true rfl | refine And.intro ?_ ?_)) rfl rfl rfl rfl | exact sBSF (by repeat' (first | exact trivial | rfl | exact Nat.le_of_ble_eq_true rfl | refine And.intro ?_ ?_)) rfl rfl rfl rfl | exact sLe rfl | exact Chk.mk (by kernel_rfl) | exact ⟨Chk.mk (by kernel_rfl)⟩ | exact sLeEq rfl rfl | exact sAnd (by repeat' constructor) (c_impl_in _ _ _) | exact sAnd (by repeat' constructor) (c_impl_CertLike ⟨n, q, r⟩ (zeroE false) hm.1 zeroRun_ok) | exact sAnd (by repeat' constructor) (c_impl_CertEntry ⟨n, q, r⟩ hm.1) | exact sAnd (by repeat' constructor) (c_impl_votesOk _ (Nat.le_trans hm.2.1 (by decide)) hm.2.2) | refine fun h => ?_)
  all_goals (refine Side.mk ?_)
  all_goals try dsimp only at *
  all_goals simp_all [msgOkI]
  all_goals (intro hlt; exfalso; omega)
end Mg

/- Messages' texts, plain. No condition. -/
namespace Mg
open Go Go.RowKit Go.Lib
set_option maxRecDepth 100000
set_option linter.unusedVariables false
set_option linter.unusedSimpArgs false
attribute [local irreducible] W Pure
theorem I6.of {n lo hi : Int} (h : inr n lo hi = true) (h1 : -9223372036854775808 ≤ lo) (h2 : hi ≤ 9223372036854775807) : I6 n := by
  simp only [inr, Bool.and_eq_true, decide_eq_true_eq] at h
  exact ⟨by omega, by omega⟩
theorem listOk_int {lo : Int} (h0 : -9223372036854775808 ≤ lo) {xs : List Two} (h : listOk lo xs = true) : ∀ x ∈ xs, x.int := fun x hx => by
  obtain ⟨i, hi, rfl⟩ := List.getElem_of_mem hx
  simp only [listOk, List.all_eq_true, List.mem_range] at h
  have := h i hi
  simp only [elemOk, Bool.and_eq_true] at this
  rw [getD_get hi] at this
  exact ⟨I6.of this.1.1 (by decide) (by decide), I6.of this.1.2 h0 (by decide)⟩
theorem I60 : I6 0 := ⟨by decide, by decide⟩
theorem zeroE_int (b : Bool) : (zeroE b).int := ⟨⟨I60, I60⟩, fun x hx => by simp [zeroE, zeroRun] at hx, fun x hx => by simp [zeroE, zeroRun] at hx, I60, I60⟩
theorem entryOk_int {e : Entry} (h : entryOk e = true) : e.int := by
  unfold entryOk at h
  split at h
  · rw [of_decide_eq_true h]; exact zeroE_int true
  · simp only [Bool.and_eq_true, reqOk, execOk, headOk] at h
    obtain ⟨⟨⟨q1, q2⟩, ⟨⟨⟨⟨r1, r2⟩, _⟩, _⟩, l1⟩, l2⟩, _⟩ := h
    exact ⟨⟨I6.of q1 (by decide) (by decide), I6.of q2 (by decide) (by decide)⟩, listOk_int (by decide) l1, listOk_int (by decide) l2, I6.of r2 (by decide) (by decide), I6.of r1 (by decide) (by decide)⟩
def words : List (List UInt8) := [[], [112, 114, 101, 112, 97, 114, 101], [112, 114, 111, 109, 105, 115, 101], [97, 99, 99, 101, 112, 116], [97, 99, 99, 101, 112, 116, 101, 100], [99, 104, 111, 115, 101, 110], [114, 101, 102, 117, 115, 101], [97, 115, 107], [110, 101, 101, 100]]
def wordC (w : List UInt8) : List MC := [.sc (.string (str w))]
def word (k : Int) : List UInt8 := words.getD k.toNat []
def mOk (m : Msg) : Bool := msgOkS m.kind m.src m.dst m.bal m.slot m.e m.votes
def msgHead (m : Msg) : List UInt8 := word m.kind ++ [32] ++ itoa m.src ++ [32] ++ itoa m.dst ++ [32] ++ itoa m.bal ++ [32] ++ itoa m.slot
def voteText (v : Vote) : List UInt8 := [32] ++ itoa v.bal ++ (if v.bal = 0 then [] else entText v.e)
def votesText (vs : List Vote) : List UInt8 := vs.flatMap voteText
def msgTail (m : Msg) : List UInt8 := if m.kind = 3 ∨ m.kind = 5 ∨ m.kind = 7 then [32] ++ entText m.e else if m.kind = 2 then votesText m.votes else []
def msgText (m : Msg) : List UInt8 := if mOk m = true then msgHead m ++ msgTail m else []
structure MsgF (m : Msg) : Prop where
  kind : 1 ≤ m.kind ∧ m.kind ≤ 8
  src : 0 ≤ m.src ∧ m.src ≤ 2
  dst : 0 ≤ m.dst ∧ m.dst ≤ 2
  ne : m.src ≠ m.dst
  bal : 0 ≤ m.bal ∧ m.bal ≤ 3000
  slot : 0 ≤ m.slot ∧ m.slot ≤ 40
  ent : (m.kind = 3 ∨ m.kind = 5 ∨ m.kind = 7) → entryOk m.e = true
  noent : ¬ (m.kind = 3 ∨ m.kind = 5 ∨ m.kind = 7) → m.e = zeroE false
  vs : m.kind = 2 → votesOk m.votes = true
  novs : m.kind ≠ 2 → m.votes = []
theorem mOk_f {m : Msg} (h : mOk m = true) : MsgF m := by
  obtain ⟨k, f, t, b, s, e, vs⟩ := m
  unfold mOk msgOkS at h
  dsimp only at h
  split at h
  · cases h
  rename_i hc
  simp only [Bool.or_eq_true, decide_eq_true_eq, beq_iff_eq, Bool.and_eq_true, bne_iff_ne, ne_eq, List.length_map, not_or, not_and] at hc
  obtain ⟨⟨⟨⟨⟨⟨⟨c1, c2⟩, c3⟩, c4⟩, c5⟩, c6⟩, c7⟩, c8⟩ := hc
  have hvs : k ≠ 2 → vs = [] := fun hk => List.eq_nil_of_length_eq_zero (by have := c8 hk; omega)
  have fin : (1 ≤ k ∧ k ≤ 8) → (0 ≤ b ∧ b ≤ 3000) → ((k = 3 ∨ k = 5 ∨ k = 7) → entryOk e = true) → (¬ (k = 3 ∨ k = 5 ∨ k = 7) → e = zeroE false) → (k = 2 → votesOk vs = true) → MsgF ⟨k, f, t, b, s, e, vs⟩ :=
    fun a1 a2 a3 a4 a5 => ⟨a1, ⟨by dsimp only; omega, by dsimp only; omega⟩, ⟨by dsimp only; omega, by dsimp only; omega⟩, c5, a2, ⟨by dsimp only; omega, by dsimp only; omega⟩, a3, a4, a5, hvs⟩
  repeat' split at h
  all_goals try (cases h; done)
  all_goals simp only [Bool.and_eq_true, decide_eq_true_eq, beq_iff_eq, inr, Bool.not_eq_true'] at *
  all_goals first
    | exact fin (by omega) (by omega) (fun _ => by simp_all) (fun hk => by first | simp_all | omega) (fun hk => by first | simp_all | omega)
    | exact fin (by omega) (by omega) (fun hk => by first | simp_all | omega) (fun hk => by first | (exfalso; apply hk; omega) | simp_all) (fun hk => by first | simp_all | omega)
    | skip
theorem word_at {k : Int} (h : 1 ≤ k ∧ k ≤ 8) : (words.map wordC)[k.toNat]? = some (wordC (word k)) := by
  obtain ⟨n, rfl⟩ := Int.eq_ofNat_of_zero_le (show 0 ≤ k by omega)
  have hn : n < 9 := by omega
  unfold word
  rw [Int.toNat_natCast]
  match n, hn with
  | 0, _ | 1, _ | 2, _ | 3, _ | 4, _ | 5, _ | 6, _ | 7, _ | 8, _ => rfl
theorem word_len (k : Int) : (word k).length ≤ 8 := by
  unfold word
  by_cases h : k.toNat < words.length
  · rw [List.getD_eq_getElem?_getD, List.getElem?_eq_getElem h]
    have : ∀ w ∈ words, w.length ≤ 8 := by decide
    exact this _ (List.getElem_mem h)
  · rw [List.getD_eq_getElem?_getD, List.getElem?_eq_none (by omega)]; decide
theorem ent_len {e : Entry} (h : e.int) (ho : e.ok lim) : (entText e).length ≤ 100000000 := by
  have h1 : e.run.reads.length ≤ 1048576 := ho.1
  have h2 : e.run.puts.length ≤ 1048576 := ho.2
  have l1 := h.q.1.len
  have l2 := h.q.2.len
  have l3 := h.c.len
  have l4 := h.d.len
  have g1 := twos_len (a := 63) (b := 47) h.r
  have g2 := twos_len (a := 33) (b := 61) h.p
  cases hn : e.none with
  | true => simp [entText, hn]
  | false =>
    rw [ent_eq hn]
    simp only [List.length_append, List.length_cons, List.length_nil, entHead]
    omega
end Mg

/- Runs that are drawn, with their numbers' bounds. No condition. -/
namespace Mg
open Go Go.RowKit
set_option maxRecDepth 100000
set_option linter.unusedVariables false
set_option linter.unusedSimpArgs false
attribute [local irreducible] W Pure Con
abbrev IntL (xs : List Two) : Prop := ∀ x ∈ xs, x.int
abbrev IntG (g : List Int) : Prop := ∀ n ∈ g, I6 n
theorem I6.wrap (n : Int) : I6 (IntKind.i64.wrap n) := by
  unfold IntKind.wrap I6
  simp [IntKind.signed, IntKind.bits]
  omega
theorem IntL.nil : IntL [] := fun x hx => by cases hx
theorem IntL.app {xs : List Two} (h : IntL xs) {x : Two} (hx : x.int) : IntL (xs ++ [x]) := fun y hy => by
  rcases List.mem_append.1 hy with hy | hy
  · exact h y hy
  · rw [List.mem_singleton.1 hy]; exact hx
theorem IntL.set {xs : List Two} (h : IntL xs) {x : Two} (hx : x.int) {i : Nat} : IntL (xs.set i x) := fun y hy => by
  rcases List.mem_or_eq_of_mem_set hy with hy | rfl
  · exact h y hy
  · exact hx
theorem IntG.set {xs : List Int} (h : IntG xs) {x : Int} (hx : I6 x) {i : Nat} : IntG (xs.set i x) := fun y hy => by
  rcases List.mem_or_eq_of_mem_set hy with hy | rfl
  · exact h y hy
  · exact hx
theorem IntG.get {g : List Int} (h : IntG g) (i : Nat) : I6 (g.getD i default) := by
  by_cases hi : i < g.length
  · exact h _ (getD_mem hi)
  · rw [List.getD_eq_getElem?_getD, List.getElem?_eq_none (by omega)]; exact I60
theorem c_l3LookI (bx : List Two) (hbx : bx.length = 4) (bi : IntL bx) (rs ps : List Two) (ri : IntL rs) (pi : IntL ps) (v c b : Int) (hr : rs.length ≤ 1000) (hp : ps.length ≤ 1000) (hb : 0 ≤ b ∧ b ≤ 3) : Con PP 111 [.one (.fz (bx.map Two.cells)), .agg [.ref 0 0 rs.length, .ref 1 0 ps.length, i6 v, i6 c], oi b] [.arr (rs.map Two.cells), .arr (ps.map Two.cells)] 0
    (fun d : Int × List Two => d.2.length ≤ rs.length + 1 ∧ I6 d.1 ∧ IntL d.2) (fun d => .tup [oi d.1, .agg [.ref 0 0 d.2.length, .ref 1 0 ps.length, i6 v, i6 c]]) (fun d => [.arr (d.2.map Two.cells), .arr (ps.map Two.cells)]) := by
  refine Con.vc [(12, .res (oi (atI ps b))), (20, .resf asI), (25, .res (ob (saw rs b))), (36, .row []), (32, .row (bx.getD b.toNat default).cells), (41, .row (bx.getD b.toNat default).cells)] TTok hmo Go.Proofs.Tryd.func111 rfl (by kernel_rfl) rfl (by kernel_rfl) ?_
  repeat' (first | refine And.intro ?_ ?_ | exact tf | exact ft | refine tt ?_ | refine ff ?_ | exact ⟨trivial⟩ | exact sAll rfl | exact sF1 rfl | exact sBld (by repeat' (first | exact trivial | rfl | exact Nat.le_of_ble_eq_true rfl | refine And.intro ?_ ?_)) rfl | exact sBS (by repeat' (first | exact trivial | rfl | exact Nat.le_of_ble_eq_true rfl | refine And.intro ?_ ?_)) rfl rfl rfl rfl | exact sBSF (by repeat' (first | exact trivial | rfl | exact Nat.le_of_ble_eq_true rfl | refine And.intro ?_ ?_)) rfl rfl rfl rfl | exact sLe rfl | exact Chk.mk (by kernel_rfl) | exact ⟨Chk.mk (by kernel_rfl)⟩ | exact sLeEq rfl rfl | refine fun h => ?_)
  all_goals have hlt := atI_lt (b := b) (xs := ps)
  all_goals try (exact sLend ⟨lendF Two.frz rfl, trivial, trivial⟩ (c_l3At ps b (Nat.le_trans hp (by decide))) (congrArg (fun z => [MV.one (.fz z), oi b]) (l_all rfl)))
  all_goals try (exact sLend ⟨lendF Two.frz rfl, trivial, trivial⟩ (c_l3Saw rs b (Nat.le_trans hr (by decide))) (congrArg (fun z => [MV.one (.fz z), oi b]) (l_all rfl)))
  all_goals try (exact ⟨trivial, Nat.le_of_ble_eq_true rfl, trivial⟩)
  all_goals try (exact sIxO (of_decide_eq_true h) hlt rfl (fun _ => rfl))
  all_goals try (exact sRow hb.1 (by rw [List.getElem?_map, List.getD_eq_getElem?_getD, List.getElem?_eq_getElem (by omega)]; rfl) rfl)
  all_goals try (exact sApp (xs := rs) (c := Two.cells) (by simp) (fun _ => rfl) rfl (by omega) rfl rfl)
  all_goals simp only [decide_eq_true_eq, decide_eq_false_iff_not, List.length_map, Bool.not_eq_true', Bool.not_eq_false', Bool.not_eq_eq_eq_not, Bool.not_true, Bool.not_false, bne_iff_ne, ne_eq, bne_eq_false_iff_eq, beq_iff_eq, beq_eq_false_iff_ne] at *
  all_goals try (exact sLdI (n := Two.b) (t := fun _ => []) (by omega) (fun _ => rfl))
  · apply exLook (ps.getD (atI ps b).toNat default).b rs; refine ⟨[], [], ⟨by simp, (int_get pi _).2, ri⟩, ?_⟩
    repeat' (first | exact trivial | exact ⟨trivial⟩ | exact Side.mk rfl | exact sF1 rfl | exact Chk.mk (by kernel_rfl) | exact ⟨Chk.mk (by kernel_rfl)⟩ | exact sMapF Two.flat | exact ⟨by rw [Nat.zero_add, mapGet (by omega)]; rfl⟩ | refine And.intro ?_ ?_ | rfl)
  · apply exLook _ (rs ++ [⟨b, (bx.getD b.toNat default).a⟩]); refine ⟨[(0, 4)], [], ⟨by simp, ?_, ri.app ⟨(⟨by omega, by omega⟩ : I6 b), (int_get bi _).1⟩⟩, ?_⟩; rotate_left 1; (focus (repeat' (first | exact trivial | exact ⟨trivial⟩ | exact Side.mk rfl | exact sF1 rfl | exact Chk.mk (by kernel_rfl) | exact ⟨Chk.mk (by kernel_rfl)⟩ | exact sAppR rfl | exact sAppL rfl rfl | exact sMapF Two.flat | refine And.intro ?_ ?_ | rfl)))
    exact (int_get bi _).2
  · apply exLook _ rs; refine ⟨[], [], ⟨by simp, ?_, ri⟩, ?_⟩; rotate_left 1; (focus (repeat' (first | exact trivial | exact ⟨trivial⟩ | exact Side.mk rfl | exact sF1 rfl | exact Chk.mk (by kernel_rfl) | exact ⟨Chk.mk (by kernel_rfl)⟩ | exact sMapF Two.flat | refine And.intro ?_ ?_ | rfl)))
    exact (int_get bi _).2
theorem c_l3PutI (rs ps : List Two) (pi : IntL ps) (v c b n : Int) (ib : I6 b) (ni : I6 n) (hr : rs.length ≤ 1000) (hp : ps.length ≤ 1000) : Con PP 112 [.agg [.ref 0 0 rs.length, .ref 1 0 ps.length, i6 v, i6 c], oi b, oi n] [.arr (rs.map Two.cells), .arr (ps.map Two.cells)] 0
    (fun d : List Two => d.length ≤ ps.length + 1 ∧ IntL d) (fun d => .agg [.ref 0 0 rs.length, .ref 1 0 d.length, i6 v, i6 c]) (fun d => [.arr (rs.map Two.cells), .arr (d.map Two.cells)]) := by
  refine Con.vc [(11, .res (oi (atI ps b))), (26, .row [])] TTok hmo Go.Proofs.Tryd.func112 rfl (by kernel_rfl) rfl (by kernel_rfl) ?_
  repeat' (first | refine And.intro ?_ ?_ | exact tf | exact ft | refine tt ?_ | refine ff ?_ | exact ⟨trivial⟩ | exact sAll rfl | exact sF1 rfl | exact sBld (by repeat' (first | exact trivial | rfl | exact Nat.le_of_ble_eq_true rfl | refine And.intro ?_ ?_)) rfl | exact sBS (by repeat' (first | exact trivial | rfl | exact Nat.le_of_ble_eq_true rfl | refine And.intro ?_ ?_)) rfl rfl rfl rfl | exact sBSF (by repeat' (first | exact trivial | rfl | exact Nat.le_of_ble_eq_true rfl | refine And.intro ?_ ?_)) rfl rfl rfl rfl | exact sLe rfl | exact Chk.mk (by kernel_rfl) | exact ⟨Chk.mk (by kernel_rfl)⟩ | exact sLeEq rfl rfl | refine fun h => ?_)
  all_goals have hlt := atI_lt (b := b) (xs := ps)
  all_goals try (exact sLend ⟨lendF Two.frz rfl, trivial, trivial⟩ (c_l3At ps b (Nat.le_trans hp (by decide))) (congrArg (fun z => [MV.one (.fz z), oi b]) (l_all rfl)))
  all_goals try (exact sIxO (of_decide_eq_true h) hlt rfl (fun _ => rfl))
  all_goals try (exact sSt (c := Two.cells) (m := 2) (xs := ps) (by have h := of_decide_eq_true h; omega) (fun _ => rfl) rfl rfl)
  all_goals try (exact sApp (xs := ps) (c := Two.cells) (by simp) (fun _ => rfl) rfl (by omega) rfl rfl)
  all_goals try (first | exact ⟨trivial, trivial⟩ | exact ⟨Nat.le_of_ble_eq_true rfl, trivial⟩ | exact ⟨trivial, Nat.le_of_ble_eq_true rfl, trivial⟩ | exact ⟨Nat.le_of_ble_eq_true rfl, trivial, trivial⟩)
  all_goals simp only [decide_eq_true_eq, decide_eq_false_iff_not, List.length_map, Bool.not_eq_true', Bool.not_eq_false', Bool.not_eq_eq_eq_not, Bool.not_true, Bool.not_false, bne_iff_ne, ne_eq, bne_eq_false_iff_eq, beq_iff_eq, beq_eq_false_iff_ne] at *
  · apply exPut (ps.set (atI ps b).toNat ⟨(ps.getD (atI ps b).toNat default).a, n⟩); refine ⟨[], [], ⟨by simp, pi.set (show Two.int ⟨(ps.getD (atI ps b).toNat default).a, n⟩ from ⟨(int_get pi _).1, ni⟩)⟩, ?_⟩
    repeat' (first | exact trivial | exact ⟨trivial⟩ | exact Side.mk rfl | exact sF1 rfl | exact Chk.mk (by kernel_rfl) | exact ⟨Chk.mk (by kernel_rfl)⟩ | exact sMapF Two.flat | exact sSet (by rw [mapGet (by omega)]; rfl) | exact sSetL rfl | refine And.intro ?_ ?_ | rfl)
  · apply exPut (ps ++ [⟨b, n⟩]); refine ⟨[(1, 4)], [], ⟨by simp, pi.app ⟨ib, ni⟩⟩, ?_⟩
    repeat' (first | exact trivial | exact ⟨trivial⟩ | exact Side.mk rfl | exact sF1 rfl | exact Chk.mk (by kernel_rfl) | exact ⟨Chk.mk (by kernel_rfl)⟩ | exact sAppR rfl | exact sAppL rfl rfl | exact sMapF Two.flat | refine And.intro ?_ ?_ | rfl)
def tLookI (rs ps : List Two) (v c : Int) : ConT := ⟨Int × List Two, fun d => d.2.length ≤ rs.length + 1 ∧ I6 d.1 ∧ IntL d.2, fun d => .tup [oi d.1, .agg [.ref 0 0 d.2.length, .ref 1 0 ps.length, i6 v, i6 c]], fun d => [.arr (d.2.map Two.cells), .arr (ps.map Two.cells)]⟩
def tPutI (rs ps : List Two) (v c : Int) : ConT := ⟨List Two, fun d => d.length ≤ ps.length + 1 ∧ IntL d, fun d => .agg [.ref 0 0 rs.length, .ref 1 0 d.length, i6 v, i6 c], fun d => [.arr (rs.map Two.cells), .arr (d.map Two.cells)]⟩
set_option maxHeartbeats 4000000 in
theorem c_l3StepI (bx : List Two) (hbx : bx.length = 4) (bi : IntL bx) (g : List Int) (hg : g.length = 4) (gi : IntG g) (rs ps : List Two) (ri : IntL rs) (pi : IntL ps) (v c : Int) (x : Ins) (hr : rs.length ≤ 900) (hp : ps.length ≤ 900) (ha : 0 ≤ x.a ∧ x.a ≤ 3) (hb : 0 ≤ x.b ∧ x.b ≤ 3) (xn : I6 x.n) (ci : I6 c) : Con PP 102 [.one (.fz (bx.map Two.cells)), .agg [.ref 1 0 rs.length, .ref 2 0 ps.length, i6 v, i6 c], .one (.ref 0 0 4), .agg x.cells] [.arr (g.map oi1), .arr (rs.map Two.cells), .arr (ps.map Two.cells)] 1
    (fun d : List Int × List Two × List Two × Int => d.1.length = 4 ∧ d.2.1.length ≤ rs.length + 1 ∧ d.2.2.1.length ≤ ps.length + 1 ∧ IntG d.1 ∧ IntL d.2.1 ∧ IntL d.2.2.1 ∧ I6 d.2.2.2) (fun d => .agg [.ref 1 0 d.2.1.length, .ref 2 0 d.2.2.1.length, i6 v, i6 d.2.2.2]) (fun d => [.arr (d.1.map oi1), .arr (d.2.1.map Two.cells), .arr (d.2.2.1.map Two.cells)]) := by
  refine Con.vc [(20, .con false [] [1, 2] [] (fun _ _ => tLookI rs ps v c)), (39, .con false [] [1, 2] [] (fun _ _ => tPutI rs ps v c)), (38, .resf asI), (57, .resf asI), (62, .resf asI), (74, .resf asI), (79, .resf asI), (93, .resf asI), (94, .resf (fun l => ob (inr (intOf l) (-1000000) 1000000)))] TTok hmo Go.Proofs.Tryd.func102 rfl (by kernel_rfl) rfl (by kernel_rfl) ?_
  repeat' (first | refine And.intro ?_ ?_ | exact tf | exact ft | refine tt ?_ | refine ff ?_ | exact ⟨trivial⟩ | exact sAll rfl | exact sF1 rfl | exact sBld (by repeat' (first | exact trivial | rfl | exact Nat.le_of_ble_eq_true rfl | refine And.intro ?_ ?_)) rfl | exact sBS (by repeat' (first | exact trivial | rfl | exact Nat.le_of_ble_eq_true rfl | refine And.intro ?_ ?_)) rfl rfl rfl rfl | exact sBSF (by repeat' (first | exact trivial | rfl | exact Nat.le_of_ble_eq_true rfl | refine And.intro ?_ ?_)) rfl rfl rfl rfl | exact sLe rfl | exact Chk.mk (by kernel_rfl) | exact ⟨Chk.mk (by kernel_rfl)⟩ | exact sLeEq rfl rfl | refine fun h => ?_)
  all_goals try dsimp only [tLookI, tPutI] at *
  all_goals have hA : x.a.toNat < g.length := by omega
  all_goals try simp only [oiSet _ hA] at *
  all_goals try (exact ⟨allF Two.frz, allF Two.frz, trivial⟩)
  all_goals try (exact ⟨fun d _ => ⟨allF Two.frz, allF Two.frz, trivial⟩⟩)
  all_goals try (exact ⟨c_l3LookI bx hbx bi rs ps ri pi v c x.b (by omega) (by omega) hb⟩)
  all_goals try (exact ⟨⟨trivial, trivial⟩, c_l1Num _⟩)
  all_goals try (refine ⟨c_l3PutI rs ps pi v c _ _ ⟨by omega, by omega⟩ (?_ : I6 _) (by omega) (by omega)⟩; rw [mapGet (by omega)]; exact IntG.get gi _)
  all_goals try (exact sIxO (c := oi1) (by omega) (by first | omega | (simp only [List.length_set]; omega)) (by first | omega | (simp only [List.length_set]; omega)) (fun _ => rfl))
  all_goals try (exact sSt (c := oi1) (m := 1) (xs := g) (by omega) (fun _ => rfl) rfl rfl)
  all_goals try (exact sLdI (c := oi1) (n := id) (t := fun _ => []) (by first | omega | (simp only [List.length_set]; omega)) (fun _ => rfl))
  all_goals try (first | exact ⟨trivial, trivial⟩ | exact ⟨Nat.le_of_ble_eq_true rfl, trivial⟩ | exact ⟨trivial, Nat.le_of_ble_eq_true rfl, trivial⟩ | exact ⟨Nat.le_of_ble_eq_true rfl, trivial, trivial⟩)
  all_goals try (exact ⟨fun _ _ => trivial⟩)
  all_goals (apply exStep _ _ _ _)
  all_goals first | (refine ⟨[], [], ?_, ?_⟩; rotate_left 1; focus ((repeat' (first | exact trivial | exact ⟨trivial⟩ | exact Side.mk rfl | exact sF1 rfl | exact Chk.mk (by kernel_rfl) | exact ⟨Chk.mk (by kernel_rfl)⟩ | exact sMapF Two.flat | exact sMapF oi1.flat | refine And.intro ?_ ?_ | rfl)); done)) | (refine ⟨[(1, 6), (2, 7)], [], ?_, ?_⟩; rotate_left 1; focus ((repeat' (first | exact trivial | exact ⟨trivial⟩ | exact Side.mk rfl | exact sF1 rfl | exact Chk.mk (by kernel_rfl) | exact ⟨Chk.mk (by kernel_rfl)⟩ | exact sMapF Two.flat | exact sMapF oi1.flat | refine And.intro ?_ ?_ | rfl)); done)) | skip
  all_goals (refine ⟨?_, ?_, ?_, ?_, ?_, ?_, ?_⟩ <;> dsimp only)
  all_goals try (first | omega | (simp only [List.length_set]; omega))
  all_goals try assumption
  all_goals try (refine IntG.set gi ?_)
  all_goals first | exact xn | exact ci | exact ⟨by decide, by decide⟩ | exact I6.wrap _ | exact IntG.get gi _ | exact (‹_ ∧ I6 _ ∧ IntL _›).1 | exact (‹_ ∧ I6 _ ∧ IntL _›).2.1 | exact (‹_ ∧ I6 _ ∧ IntL _›).2.2 | exact (‹_ ∧ IntL _›).2

end Mg

/- Promises and votes that are drawn. No condition. -/
namespace Mg
open Go Go.RowKit
set_option maxRecDepth 100000
set_option linter.unusedVariables false
set_option linter.unusedSimpArgs false
attribute [local irreducible] W Pure Con
theorem exProm {Q : Int × Bool → Prop} (p : Int) (b : Bool) (h : Q (p, b)) : ∃ d, Q d := ⟨_, h⟩
def tProm (vs : List Vote) : ConT := ⟨Int × Bool, fun _ => True, fun d => .tup [.agg [i6 d.1, .ref 0 0 vs.length], ob d.2], fun _ => [.arr (vs.map Vote.cells)]⟩
theorem c_l6Promise (vs : List Vote) (p b : Int) : Con PP 94 [.agg [i6 p, .ref 0 0 vs.length], oi b] [.arr (vs.map Vote.cells)] 1
    (fun _ : Int × Bool => True) (fun d => .tup [.agg [i6 d.1, .ref 0 0 vs.length], ob d.2]) (fun _ => [.arr (vs.map Vote.cells)]) := by
  refine Con.vc [(7, .res (ob (inr b 1 3000)))] TTok hmo Go.Proofs.Tryd.func94 rfl (by kernel_rfl) rfl (by kernel_rfl) ?_
  repeat' (first | refine And.intro ?_ ?_ | exact tf | exact ft | refine tt ?_ | refine ff ?_ | exact ⟨trivial⟩ | exact sAll rfl | exact sF1 rfl | exact sBld (by repeat' (first | exact trivial | rfl | exact Nat.le_of_ble_eq_true rfl | refine And.intro ?_ ?_)) rfl | exact sBS (by repeat' (first | exact trivial | rfl | exact Nat.le_of_ble_eq_true rfl | refine And.intro ?_ ?_)) rfl rfl rfl rfl | exact sBSF (by repeat' (first | exact trivial | rfl | exact Nat.le_of_ble_eq_true rfl | refine And.intro ?_ ?_)) rfl rfl rfl rfl | exact sLe rfl | exact Chk.mk (by kernel_rfl) | exact ⟨Chk.mk (by kernel_rfl)⟩ | exact sLeEq rfl rfl | exact sAnd (by repeat' constructor) (c_l6Bal _) | refine fun h => ?_)
  all_goals try (first | exact ⟨trivial, trivial⟩ | exact ⟨Nat.le_of_ble_eq_true rfl, trivial⟩ | exact ⟨trivial, Nat.le_of_ble_eq_true rfl, trivial⟩ | exact ⟨Nat.le_of_ble_eq_true rfl, trivial, trivial⟩)
  all_goals (apply exProm; refine ⟨[], [], ?_, ?_⟩; rotate_left 1; focus (repeat' (first | exact trivial | exact ⟨trivial⟩ | exact Side.mk rfl | exact sF1 rfl | exact Chk.mk (by kernel_rfl) | exact ⟨Chk.mk (by kernel_rfl)⟩ | exact sMapF Vote.flat | refine And.intro ?_ ?_ | rfl)))
  all_goals exact trivial
theorem exCast {Q : Int × List Vote × Bool → Prop} (p : Int) (vs : List Vote) (b : Bool) (h : Q (p, vs, b)) : ∃ d, Q d := ⟨_, h⟩
set_option maxHeartbeats 4000000 in
theorem c_l6Cast (vs : List Vote) (p b slot : Int) (e : Entry) (hl : vs.length ≤ 1000) (hv : VsOk 30 vs) (he : e.ok 30) : Con PP 95 [.agg [i6 p, .ref 0 0 vs.length], oi b, oi slot, .agg e.cells] [.arr (vs.map Vote.cells)] 0
    (fun d : Int × List Vote × Bool => d.2.1.length ≤ max vs.length (slot.toNat + 1) ∧ VsOk 30 d.2.1) (fun d => .tup [.agg [i6 d.1, .ref 0 0 d.2.1.length], ob d.2.2]) (fun d => [.arr (d.2.1.map Vote.cells)]) := by
  have he' : e.ok lim := ⟨Nat.le_trans he.1 (by decide), Nat.le_trans he.2 (by decide)⟩
  refine Con.vc [(20, .res (ob (entryOk e))), (27, .con false [0] [] [] (fun _ _ => tProm vs)), (49, .res (.agg e.cells))] TTok hmo Go.Proofs.Tryd.func95 rfl (by kernel_rfl) rfl (by kernel_rfl) ?_
  repeat' (first | refine And.intro ?_ ?_ | exact tf | exact ft | refine tt ?_ | refine ff ?_ | exact ⟨trivial⟩ | exact sAll rfl | exact sF1 rfl | exact sBld (by repeat' (first | exact trivial | rfl | exact Nat.le_of_ble_eq_true rfl | refine And.intro ?_ ?_)) rfl | exact sBS (by repeat' (first | exact trivial | rfl | exact Nat.le_of_ble_eq_true rfl | refine And.intro ?_ ?_)) rfl rfl rfl rfl | exact sBSF (by repeat' (first | exact trivial | rfl | exact Nat.le_of_ble_eq_true rfl | refine And.intro ?_ ?_)) rfl rfl rfl rfl | exact sLe rfl | exact Chk.mk (by kernel_rfl) | exact ⟨Chk.mk (by kernel_rfl)⟩ | exact sLeEq rfl rfl | exact sAnd (by repeat' constructor) (c_spec_CertEntry e he') | exact sAnd (by repeat' constructor) (c_l5Entry e he') | refine fun h => ?_)
  all_goals try dsimp only [tProm] at *
  all_goals try (exact ⟨fun _ _ => trivial⟩)
  all_goals try (exact ⟨fun _ _ => ⟨Nat.le_refl _, trivial⟩⟩)
  all_goals try (exact ⟨c_l6Promise vs p b⟩)
  all_goals try (exact ⟨allF Vote.frz, trivial⟩)
  all_goals try (first | exact ⟨trivial, trivial⟩ | exact ⟨Nat.le_of_ble_eq_true rfl, trivial⟩ | exact ⟨trivial, Nat.le_of_ble_eq_true rfl, trivial⟩ | exact ⟨Nat.le_of_ble_eq_true rfl, trivial, trivial⟩)
  all_goals try (exact ⟨fun _ _ => ⟨allF Vote.frz, trivial⟩⟩)
  rotate_left 2
  · rename_i dp _
    rcases dp with ⟨p1, b1⟩
    have hs0 : 0 ≤ slot ∧ slot < 40 := by
      have g1 := of_decide_eq_false ‹decide (slot < 0) = false›
      have g2 := of_decide_eq_false ‹decide (slot ≥ 40) = false›
      omega
    refine W.loopC (D := List Vote) (fun d => [(41, .row []), (49, .res (.agg e.cells))]) TTok hmo
      (fun d => ⟨53, 6, [(1, oi b), (2, oi slot), (7, .one (.ptr 2 0 0)), (8, .one (.ptr 3 0 0)), (9, ob false), (10, .one (.ptr 4 0 0))],
        [(5, .arr (d.map Vote.cells)), (2, .box e.cells), (3, .box [i6 0, .nil]), (4, .box [i6 p1, .ref 5 0 d.length])]⟩) (fun d => slot.toNat + 1 - d.length)
      (fun d => d.length ≤ max vs.length (slot.toNat + 1) ∧ VsOk 30 d) vs [(5, 0)] ⟨by omega, hv⟩ ?_ ?_
    · repeat' (first | exact trivial | exact ⟨trivial⟩ | exact Side.mk rfl | exact sF1 rfl | exact Chk.mk (by kernel_rfl) | exact ⟨Chk.mk (by kernel_rfl)⟩ | exact sMapF Vote.flat | refine And.intro ?_ ?_ | rfl)
    · intro d ⟨h1, h2⟩
      repeat' (first | refine And.intro ?_ ?_ | exact tf | exact ft | refine tt ?_ | refine ff ?_ | exact ⟨trivial⟩ | exact sAll rfl | exact sF1 rfl | exact sBld (by repeat' (first | exact trivial | rfl | exact Nat.le_of_ble_eq_true rfl | refine And.intro ?_ ?_)) rfl | exact sBS (by repeat' (first | exact trivial | rfl | exact Nat.le_of_ble_eq_true rfl | refine And.intro ?_ ?_)) rfl rfl rfl rfl | exact sBSF (by repeat' (first | exact trivial | rfl | exact Nat.le_of_ble_eq_true rfl | refine And.intro ?_ ?_)) rfl rfl rfl rfl | exact sLe rfl | exact Chk.mk (by kernel_rfl) | exact ⟨Chk.mk (by kernel_rfl)⟩ | exact sLeEq rfl rfl | exact sAnd (by repeat' constructor) (c_l5Entry e he') | refine fun h => ?_)
      all_goals try (exact sApp (xs := d) (c := Vote.cells) (by simp) (fun _ => rfl) rfl (by omega) rfl rfl)
      all_goals try (have hd := of_decide_eq_false ‹decide ((d.length : Int) ≤ slot) = false›)
      all_goals try (exact sIxO (c := Vote.cells) (by omega) (by omega) rfl (fun _ => rfl))
      all_goals try (exact sSt (c := Vote.cells) (m := 8) (xs := d) (by omega) (fun _ => rfl) rfl rfl)
      all_goals try (first | exact ⟨trivial, trivial⟩ | exact ⟨Nat.le_of_ble_eq_true rfl, trivial⟩ | exact ⟨trivial, Nat.le_of_ble_eq_true rfl, trivial⟩ | exact ⟨Nat.le_of_ble_eq_true rfl, trivial, trivial⟩)
      all_goals simp only [decide_eq_true_eq, decide_eq_false_iff_not, List.length_map, Bool.not_eq_true', Bool.not_eq_false', Bool.not_eq_eq_eq_not, Bool.not_true, Bool.not_false, bne_iff_ne, ne_eq, bne_eq_false_iff_eq, beq_iff_eq, beq_eq_false_iff_ne] at *
      · refine ⟨d ++ [default], [(5, 6)], by simp; omega, ⟨by simp; omega, VsOk.app h2 Vote.ok_default⟩, ?_⟩
        repeat' (first | exact trivial | exact ⟨trivial⟩ | exact Side.mk rfl | exact sF1 rfl | exact Chk.mk (by kernel_rfl) | exact ⟨Chk.mk (by kernel_rfl)⟩ | exact sAppR rfl | exact sAppL rfl rfl | exact sAppL2 rfl rfl | exact sMapF Vote.flat | refine And.intro ?_ ?_ | rfl)
      · apply exCast p1 (d.set slot.toNat ⟨b, e⟩) true; refine ⟨[(0, 5)], [], ⟨by simp; omega, VsOk.set h2 he⟩, ?_⟩
        repeat' (first | exact trivial | exact ⟨trivial⟩ | exact Side.mk rfl | exact sF1 rfl | exact Chk.mk (by kernel_rfl) | exact ⟨Chk.mk (by kernel_rfl)⟩ | exact sMapF Vote.flat | exact ⟨setMap (xs := d) (by rw [mapGet (by omega)]; rfl)⟩ | exact sSetL rfl | refine And.intro ?_ ?_ | rfl)
  all_goals (apply exCast p vs false; refine ⟨[], [], ⟨by dsimp only; omega, hv⟩, ?_⟩)
  all_goals repeat' (first | exact trivial | exact ⟨trivial⟩ | exact Side.mk rfl | exact sF1 rfl | exact Chk.mk (by kernel_rfl) | exact ⟨Chk.mk (by kernel_rfl)⟩ | exact sMapF Vote.flat | refine And.intro ?_ ?_ | rfl)
end Mg
