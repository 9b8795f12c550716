/- Parts of the abstract state logic and of the walks, one behind the other: R2D, E0. No condition. -/
import Derived.Test.YtedgmfmhilihoaaP14
import Derived.Test.YtedgmfmhilihoaaP13
/- The data of nodes and worlds. No condition. -/
namespace Mg
open Go Go.RowKit
set_option linter.unusedVariables false
structure Ins where
  kind : Int
  a : Int
  b : Int
  n : Int
  deriving DecidableEq, Inhabited
structure Told where
  node : Int
  q : Two
  code : Int
  val : Int
  deriving DecidableEq, Inhabited
structure Asked where
  q : Two
  prog : List Ins
  deriving DecidableEq, Inhabited
structure Node where
  id : Int
  acc : Acc
  known : List Entry
  seq : Int
  phase : Int
  bal : Int
  fro : List Bool
  best : List Vote
  cur : Entry
  votes : List Bool
  busy : Bool
  prog : List Ins
  want : Entry
  queue : List Entry
  deriving DecidableEq, Inhabited
structure World where
  nodes : List Node
  net : List Msg
  asked : List Asked
  told : List Told
  deriving DecidableEq, Inhabited
def Bool.cells (b : Bool) : List MC := [bo b]
def Ins.cells (x : Ins) : List MC := [i6 x.kind, i6 x.a, i6 x.b, i6 x.n]
def Told.cells (x : Told) : List MC := [i6 x.node] ++ x.q.cells ++ [i6 x.code, i6 x.val]
def Asked.cells (x : Asked) : List MC := x.q.cells ++ [.fz (x.prog.map Ins.cells)]
def Node.cells (x : Node) : List MC := [i6 x.id] ++ x.acc.cells ++ [.fz (x.known.map Entry.cells), i6 x.seq, i6 x.phase, i6 x.bal, .fz (x.fro.map Bool.cells), .fz (x.best.map Vote.cells)] ++ x.cur.cells ++
  [.fz (x.votes.map Bool.cells), bo x.busy, .fz (x.prog.map Ins.cells)] ++ x.want.cells ++ [.fz (x.queue.map Entry.cells)]
def World.cells (x : World) : List MC := [.fz (x.nodes.map Node.cells), .fz (x.net.map Msg.cells), .fz (x.asked.map Asked.cells), .fz (x.told.map Told.cells)]
def EntriesOk (n : Nat) (xs : List Entry) : Prop := xs.length ≤ n ∧ ∀ e ∈ xs, e.ok n
def Asked.ok (n : Nat) (x : Asked) : Prop := x.prog.length ≤ n
structure Node.ok (n : Nat) (x : Node) : Prop where
  acc : x.acc.ok n
  known : EntriesOk n x.known
  fro : x.fro.length ≤ n
  best : VotesOk n x.best
  cur : x.cur.ok n
  votes : x.votes.length ≤ n
  prog : x.prog.length ≤ n
  want : x.want.ok n
  queue : EntriesOk n x.queue
structure World.ok (n : Nat) (x : World) : Prop where
  nodes : x.nodes.length ≤ n ∧ ∀ y ∈ x.nodes, y.ok n
  net : x.net.length ≤ n ∧ ∀ y ∈ x.net, y.ok n
  asked : x.asked.length ≤ n ∧ ∀ y ∈ x.asked, y.ok n
  told : x.told.length ≤ n
theorem Bool.frz (x : Bool) : (Bool.cells x).all MC.frz = true := rfl
theorem Bool.flat (x : Bool) : (Bool.cells x).all MC.flat = true := rfl
theorem Ins.frz (x : Ins) : x.cells.all MC.frz = true := rfl
theorem Ins.flat (x : Ins) : x.cells.all MC.flat = true := rfl
theorem Told.frz (x : Told) : x.cells.all MC.frz = true := rfl
theorem Told.flat (x : Told) : x.cells.all MC.flat = true := rfl
theorem Asked.frz (x : Asked) : x.cells.all MC.frz = true := rfl
theorem Asked.flat (x : Asked) : x.cells.all MC.flat = true := rfl
theorem Entry.flat (x : Entry) : x.cells.all MC.flat = true := rfl
theorem Msg.frz (x : Msg) : x.cells.all MC.frz = true := rfl
theorem Msg.flat (x : Msg) : x.cells.all MC.flat = true := rfl
theorem Node.frz (x : Node) : x.cells.all MC.frz = true := rfl
theorem Node.flat (x : Node) : x.cells.all MC.flat = true := rfl

/- What is left, reckoned. -/
structure SzOk (f : Int → Int) (p : Prop) : Prop where
  le : ∀ l : Int, 0 ≤ l → f l ≤ l
  ok : ∀ l : Int, 0 ≤ l → l ≤ (lim : Int) → 0 ≤ f l → p
theorem SzOk.imp {f : Int → Int} {p q : Prop} (h : SzOk f p) (hq : p → q) : SzOk f q := ⟨h.le, fun l h0 h1 h2 => hq (h.ok l h0 h1 h2)⟩
theorem SzOk.then_ {f g : Int → Int} {p q : Prop} (hf : SzOk f p) (hg : SzOk g q) : SzOk (fun l => thenI (f l) g) (p ∧ q) := by
  refine ⟨fun l h => ?_, fun l h0 h1 h => ?_⟩
  · have := hf.le l h
    simp only [thenI]; split
    · omega
    · have := hg.le (f l) (by omega); omega
  · obtain ⟨h2, h3⟩ := thenI_pos h
    have := hf.le l h0
    exact ⟨hf.ok l h0 h1 h2, hg.ok _ h2 (by omega) h3⟩
theorem SzOk.sg {f : Int → Int} {p : Prop} (hf : SzOk f p) : SzOk (fun l => Mg.sg (f l)) p :=
  ⟨fun l h => sg_le (hf.le l h) h, fun l h0 h1 h => hf.ok l h0 h1 (sg_pos h)⟩
theorem szOk_T (n : Nat) : SzOk (szT n) (n ≤ lim) :=
  ⟨fun l h => szT_le n h, fun l h0 h1 h => by have := (szT_ok h).1; omega⟩
def szS {α : Type} (f : α → Int → Int) (xs : List α) (l : Int) : Int := thenI (l - xs.length) (szL f xs)
theorem szL_all {α : Type} {f : α → Int → Int} {ok : α → Prop} (hf : ∀ x, SzOk (f x) (ok x)) : ∀ xs : List α, SzOk (szL f xs) (∀ x ∈ xs, ok x)
  | [] => ⟨fun l h => Int.le_refl _, fun l _ _ _ x hx => by simp at hx⟩
  | x :: xs => ((hf x).then_ (szL_all hf xs)).imp fun h y hy => by
    rcases List.mem_cons.1 hy with rfl | hy
    · exact h.1
    · exact h.2 y hy
theorem szOk_S {α : Type} {f : α → Int → Int} {ok : α → Prop} (hf : ∀ x, SzOk (f x) (ok x)) (xs : List α) : SzOk (szS f xs) (xs.length ≤ lim ∧ ∀ x ∈ xs, ok x) := by
  refine ⟨fun l h => ?_, fun l h0 h1 h => ?_⟩
  · unfold szS thenI
    split
    · omega
    · have := (szL_all hf xs).le (l - xs.length) (by omega); omega
  · obtain ⟨h2, h3⟩ := thenI_pos h
    exact ⟨by omega, (szL_all hf xs).ok _ h2 (by omega) h3⟩
theorem szOk_entry (x : Entry) : SzOk (szEntry x) (x.ok lim) := ⟨fun l h => szEntry_le x h, fun l h0 h1 h => szRun_ok h1 (sg_pos h)⟩
theorem szOk_vote (x : Vote) : SzOk (szVote x) (x.ok lim) := ⟨fun l h => szVote_le x h, fun l h0 h1 h => szVote_ok h1 h⟩
theorem szOk_votes (xs : List Vote) : SzOk (szVoteS xs) (VotesOk lim xs) := szOk_S szOk_vote xs
theorem szOk_acc (x : Acc) : SzOk (szAcc x) (x.ok lim) := ⟨fun l h => szAcc_le h, fun l h0 h1 h => szAcc_ok h1 h⟩
theorem szOk_entries (xs : List Entry) : SzOk (szS szEntry xs) (EntriesOk lim xs) := szOk_S szOk_entry xs
theorem szOk_msg (x : Msg) : SzOk (szMsg x) (x.ok lim) := ⟨fun l h => szMsg_le h, fun l h0 h1 h => szMsg_ok h0 h1 h⟩
def szNode (x : Node) (l : Int) : Int := thenI (szAcc x.acc l) fun l => thenI (szS szEntry x.known l) fun l => thenI (szT x.fro.length l) fun l => thenI (szVoteS x.best l) fun l => thenI (szEntry x.cur l) fun l =>
  thenI (szT x.votes.length l) fun l => thenI (szT x.prog.length l) fun l => thenI (szEntry x.want l) fun l => sg (szS szEntry x.queue l)
theorem szOk_node (x : Node) : SzOk (szNode x) (x.ok lim) :=
  ((szOk_acc x.acc).then_ <| (szOk_entries x.known).then_ <| (szOk_T x.fro.length).then_ <| (szOk_votes x.best).then_ <| (szOk_entry x.cur).then_ <| (szOk_T x.votes.length).then_ <| (szOk_T x.prog.length).then_ <| (szOk_entry x.want).then_ <| (szOk_entries x.queue).sg).imp
    fun ⟨h1, h2, h3, h4, h5, h6, h7, h8, h9⟩ => ⟨h1, h2, h3, h4, h5, h6, h7, h8, h9⟩
def szAsked (x : Asked) (l : Int) : Int := sg (szT x.prog.length l)
theorem szOk_asked (x : Asked) : SzOk (szAsked x) (x.ok lim) := (szOk_T x.prog.length).sg
def szWorld (x : World) (l : Int) : Int := thenI (szS szNode x.nodes l) fun l => thenI (szS szMsg x.net l) fun l => thenI (szS szAsked x.asked l) fun l => sg (szT x.told.length l)
theorem szOk_world (x : World) : SzOk (szWorld x) (x.ok lim) :=
  ((szOk_S szOk_node x.nodes).then_ <| (szOk_S szOk_msg x.net).then_ <| (szOk_S szOk_asked x.asked).then_ <| (szOk_T x.told.length).sg).imp fun ⟨h1, h2, h3, h4⟩ => ⟨h1, h2, h3, h4⟩
end Mg

/- What it is to number all that hangs on a value. No condition. -/
namespace Mg
open Go Go.RowKit
set_option linter.unusedVariables false
set_option linter.unusedSectionVars false
def mkB (k : Int) : Bool := (k.tmod 3 == 0)
section
variable {α : Type} [Inhabited α]
def mkL (f : α → Int → α) (ct : α → Int) : List α → Int → List α
  | [], _ => []
  | x :: xs, k => f x k :: mkL f ct xs (k + ct x)
def ctL (ct : α → Int) : List α → Int
  | [] => 0
  | x :: xs => ct x + ctL ct xs
def mkUp (f : α → Int → α) (ct : α → Int) (xs : List α) (k : Int) (i : Nat) : List α := mkL f ct (xs.take i) k ++ xs.drop i
variable {f : α → Int → α} {ct : α → Int}
theorem mkL_len : ∀ (xs : List α) (k : Int), (mkL f ct xs k).length = xs.length
  | [], _ => rfl
  | x :: xs, k => by simp [mkL, mkL_len xs]
theorem ctL_app : ∀ (xs ys : List α), ctL ct (xs ++ ys) = ctL ct xs + ctL ct ys
  | [], ys => by simp [ctL]
  | x :: xs, ys => by simp [ctL, ctL_app xs ys]; omega
theorem mkL_app : ∀ (xs ys : List α) (k : Int), mkL f ct (xs ++ ys) k = mkL f ct xs k ++ mkL f ct ys (k + ctL ct xs)
  | [], ys, k => by simp [mkL, ctL]
  | x :: xs, ys, k => by
    simp only [List.cons_append, mkL, ctL, mkL_app xs ys]
    rw [show k + ct x + ctL ct xs = k + (ct x + ctL ct xs) by omega]
theorem take1 {xs : List α} {i : Nat} (h : i < xs.length) : xs.take (i + 1) = xs.take i ++ [xs.getD i default] := by
  rw [List.take_succ_eq_append_getElem h, getD_get h]
theorem ctL_take {xs : List α} {i : Nat} (h : i < xs.length) : ctL ct (xs.take (i + 1)) = ctL ct (xs.take i) + ct (xs.getD i default) := by
  rw [take1 h, ctL_app]; simp [ctL]
theorem mkUp_len {xs : List α} {k : Int} {i : Nat} : (mkUp f ct xs k i).length = xs.length := by
  simp [mkUp, mkL_len]; omega
theorem mkUp_zero {xs : List α} {k : Int} : mkUp f ct xs k 0 = xs := by simp [mkUp, mkL]
theorem mkUp_all {xs : List α} {k : Int} {i : Nat} (h : xs.length ≤ i) : mkUp f ct xs k i = mkL f ct xs k := by
  simp [mkUp, List.take_of_length_le h, List.drop_eq_nil_of_le h]
theorem mkUp_get {xs : List α} {k : Int} {i : Nat} (h : i < xs.length) : (mkUp f ct xs k i)[i]? = some (xs.getD i default) := by
  have hl : (mkL f ct (xs.take i) k).length = i := by rw [mkL_len]; simp; omega
  rw [mkUp, List.getElem?_append_right (by omega), hl, Nat.sub_self, List.getElem?_drop, Nat.add_zero, List.getElem?_eq_getElem h, getD_get h]
theorem mkUp_set {xs : List α} {k : Int} {i : Nat} (h : i < xs.length) : (mkUp f ct xs k i).set i (f (xs.getD i default) (k + ctL ct (xs.take i))) = mkUp f ct xs k (i + 1) := by
  have hl : (mkL f ct (xs.take i) k).length = i := by rw [mkL_len]; simp; omega
  rw [mkUp, List.set_append, if_neg (by omega), hl, Nat.sub_self, List.drop_eq_getElem_cons h, List.set_cons_zero, mkUp, take1 h, mkL_app]
  simp [mkL]
theorem ctL_bd {M : Int} : ∀ {xs : List α}, (∀ x ∈ xs, 0 ≤ ct x ∧ ct x ≤ M) → 0 ≤ ctL ct xs ∧ ctL ct xs ≤ xs.length * M
  | [], _ => by simp [ctL]
  | x :: xs, h => by
    obtain ⟨h1, h2⟩ := h x (by simp)
    obtain ⟨h3, h4⟩ := ctL_bd (M := M) fun y hy => h y (List.mem_cons_of_mem _ hy)
    simp only [ctL, List.length_cons]
    push_cast
    rw [Int.add_mul]
    omega
theorem ctL_bdt {M : Int} {xs : List α} (hM : 0 ≤ M) (h : ∀ x ∈ xs, 0 ≤ ct x ∧ ct x ≤ M) (i : Nat) : 0 ≤ ctL ct (xs.take i) ∧ ctL ct (xs.take i) ≤ xs.length * M := by
  obtain ⟨h1, h2⟩ := ctL_bd (xs := xs.take i) fun x hx => h x (List.mem_of_mem_take hx)
  refine ⟨h1, Int.le_trans h2 (Int.mul_le_mul_of_nonneg_right ?_ hM)⟩
  simp; omega
theorem mkL_get {xs : List α} {k : Int} {i : Nat} (h : i < xs.length) : (mkL f ct xs k)[i]? = some (f (xs.getD i default) (k + ctL ct (xs.take i))) := by
  have := congrArg (fun l => l[i]?) (mkUp_set (f := f) (ct := ct) (k := k) h)
  have hl : i < (mkUp f ct xs k i).length := by rw [mkUp_len]; exact h
  rw [List.getElem?_set_self hl] at this
  rw [this]
  have e : mkL f ct xs k = mkL f ct (xs.take (i + 1)) k ++ mkL f ct (xs.drop (i + 1)) (k + ctL ct (xs.take (i + 1))) := by rw [← mkL_app, List.take_append_drop]
  have hl2 : i < (mkL f ct (xs.take (i + 1)) k).length := by rw [mkL_len]; simp; omega
  rw [e, mkUp, List.getElem?_append_left hl2, List.getElem?_append_left hl2]
def ctK (n : Int) (_ : α) : Int := n
theorem ctL_const {n : Int} : ∀ xs : List α, ctL (ctK n) xs = n * xs.length
  | [] => by simp [ctL]
  | x :: xs => by
    simp only [ctL, ctL_const xs, List.length_cons, ctK]
    push_cast
    rw [Int.mul_add]; omega
end
def likeLs : List MC → List MC → Prop
  | [], [] => True
  | c :: cs, d :: ds => like c d ∧ likeLs cs ds
  | _, _ => False
theorem likeLs_get : ∀ {cs ds : List MC}, likeLs cs ds → cs.length = ds.length ∧ ∀ (j : Nat) (c d : MC), cs[j]? = some c → ds[j]? = some d → like c d
  | [], [], _ => ⟨rfl, fun j c d hj => by simp at hj⟩
  | c :: cs, d :: ds, h => by
    obtain ⟨h1, h2⟩ := likeLs_get h.2
    refine ⟨by simp [h1], fun j x y hx hy => ?_⟩
    cases j with
    | zero => obtain rfl := Option.some.inj hx; obtain rfl := Option.some.inj hy; exact h.1
    | succ j => exact h2 j x y hx hy
  | [], _ :: _, h => h.elim
  | _ :: _, [], h => h.elim
theorem likeR_map {α : Type} {c : α → List MC} {xs ys : List α} (hl : xs.length = ys.length) (hc : ∀ x y, likeLs (c x) (c y)) : likeR (xs.map c) (ys.map c) := by
  refine ⟨by simp [hl], fun i r r' h1 h2 => ?_⟩
  rw [List.getElem?_map] at h1 h2
  obtain ⟨x, _, rfl⟩ := Option.map_eq_some_iff.1 h1
  obtain ⟨y, _, rfl⟩ := Option.map_eq_some_iff.1 h2
  exact likeLs_get (hc x y)
theorem lab_map_get {α : Type} [Inhabited α] {c : α → List MC} {B : Nat → Nat → Tk} {xs : List α} {i : Nat} {x : α} (h : xs[i]? = some x) : (labR true B 0 (xs.map c))[i]? = some (labRow true (B i) 0 (c x)) := by
  rw [labR_get, List.getElem?_map, h, Nat.zero_add]; rfl
theorem lab_map_set {α : Type} {c : α → List MC} {B : Nat → Nat → Tk} {xs : List α} {i : Nat} {x : α} : (labR true B 0 (xs.map c)).set i (labRow true (B i) 0 (c x)) = labR true B 0 ((xs.set i x).map c) := by
  have := labR_set (o := true) (B := B) (xs.map c) 0 i (c x)
  rw [Nat.zero_add] at this
  rw [this, List.map_set]
section
variable {α : Type} [Inhabited α] {f : α → Int → α} {ct : α → Int} {c : α → List MC} {xs : List α} {k : Int} {B : Nat → Nat → Tk} {i : Nat}
theorem sUp0 : Side (labR true B 0 ((mkUp f ct xs k 0).map c) = labR true B 0 (xs.map c)) := ⟨by rw [mkUp_zero]⟩
theorem sUpE (h : xs.length ≤ i) : Side (labR true B 0 ((mkUp f ct xs k i).map c) = labR true B 0 ((mkL f ct xs k).map c)) := ⟨by rw [mkUp_all h]⟩
theorem sK0 : Side (k + ctL ct (xs.take 0) = k) := ⟨by simp [ctL]⟩
theorem sKE (h : xs.length ≤ i) : Side (k + ctL ct (xs.take i) = k + ctL ct xs) := ⟨by rw [List.take_of_length_le h]⟩
theorem sLenM : Side (xs.length = (xs.map c).length) := ⟨by rw [List.length_map]⟩
theorem sWrap {a b : Int} (h : a = b + 1) (h1 : -9223372036854775808 ≤ b + 1) (h2 : b + 1 ≤ 9223372036854775807) : Side (a = IntKind.i64.wrap (b + 1)) := ⟨by rw [wrapi h1 h2, h]⟩
theorem sFlatL {rows : List (List MC)} (h : AllF rows) : Side (∀ r ∈ labR true B 0 rows, ∀ c ∈ r, c.flat = true) := ⟨lab_flat h⟩
end
theorem apart_row {B : Nat → Tk} (hB : ∀ j j' x, (B j).B x → (B j').B x → j = j') {o : Nat} {cs0 : List MC} (hp : cs0.all plainC = true := by rfl) : Apart (tokOf (.agg (labRow true B o cs0))) := fun i j i' j' x h1 h2 => by
  have key : ∀ i j, (tokOf (.agg (labRow true B o cs0)) i j).B x → i = 0 ∧ (B (o + j)).B x := fun i j h => by
    cases i with
    | succ i => exact h.elim
    | zero =>
      refine ⟨rfl, ?_⟩
      have h : (tokC ((labRow true B o cs0).getD j .dead)).B x := h
      rw [List.getD_eq_getElem?_getD, labRow_get] at h
      cases hj : cs0[j]? with
      | none => rw [hj] at h; exact h.elim
      | some c =>
        rw [hj] at h
        have hc := List.all_eq_true.1 hp c (List.mem_of_getElem? hj)
        cases c <;> first | exact h.elim | exact h | cases hc
  have h3 := key i j h1; have h4 := key i' j' h2
  exact ⟨h3.1.trans h4.1.symm, by have := hB _ _ x h3.2 h4.2; omega⟩
theorem nin_row {B : Nat → Tk} (hB : ∀ j j' x, (B j).B x → (B j').B x → j = j') {o j x : Nat} (hx : (B j).B x) {cs0 : List MC} (hj : (j < o || o + cs0.length ≤ j) = true) (h : in1 x (.agg (labRow true B o cs0))) (hp : cs0.all plainC = true := by rfl) : False := by
  obtain ⟨c, hc, h2⟩ := h
  obtain ⟨i, hi⟩ := List.getElem?_of_mem hc
  have hlt := (List.getElem?_eq_some_iff.1 hi).1
  rw [labRow_len] at hlt
  rw [labRow_get] at hi
  obtain ⟨d, hd, rfl⟩ := Option.map_eq_some_iff.1 hi
  have hpc := List.all_eq_true.1 hp d (List.mem_of_getElem? hd)
  have h3 : (B (o + i)).B x := by cases d <;> first | exact h2.elim | exact h2 | cases hpc
  have := hB _ _ x hx h3
  simp at hj
  omega
theorem pure_eq {f : Nat} {args : List MV} {k1 k2 : Int} (h : Pure PP false f args (oi k1)) (e : k2 = k1) : Pure PP false f args (oi k2) := e ▸ h
theorem sKEo {α : Type} {ct : α → Int} {xs : List α} {k : Int} {i : Nat} {p : Prop} (hp : p) (h : xs.length ≤ i) : Side (p ∧ Value.int .i64 (k + ctL ct (xs.take i)) = Value.int .i64 (k + ctL ct xs) ∧ True) := ⟨hp, by rw [List.take_of_length_le h], trivial⟩
theorem tmark_eq {f : Nat} {x x' : MV} {k k1 k2 : Int} (h : TMark PP f x k x' k1) (e : k2 = k1) : TMark PP f x k x' k2 := e ▸ h
theorem sLd1 {X : List (List MC)} {i k off : Nat} {r : List MC} {c : MC} (h : i < X.length) (hk : k = i) (hr : r.drop off = c :: r.drop (off + 1)) : Side (1 ≤ (List.drop off ((X.set i r).getD (0 + k) [])).length) := ⟨by
  subst hk; rw [setGet h, hr]; simp⟩
/- ------------------------------------------------ the kinds -/
def mkTwo (_ : Two) (k : Int) : Two := ⟨k, k + 1⟩
def mkTwos (xs : List Two) (k : Int) : List Two := mkL mkTwo (ctK 2) xs k
def mkBool (_ : Bool) (k : Int) : Bool := mkB k
def mkBools (xs : List Bool) (k : Int) : List Bool := mkL mkBool (ctK 1) xs k
def mkIns (_ : Ins) (k : Int) : Ins := ⟨k, k + 1, k + 2, k + 3⟩
def mkInss (xs : List Ins) (k : Int) : List Ins := mkL mkIns (ctK 4) xs k
def mkTold (_ : Told) (k : Int) : Told := ⟨k, ⟨k + 1, k + 2⟩, k + 3, k + 4⟩
def mkTolds (xs : List Told) (k : Int) : List Told := mkL mkTold (ctK 5) xs k
def ctEntry (e : Entry) : Int := 5 + 2 * e.run.reads.length + 2 * e.run.puts.length
def mkEntry (e : Entry) (k : Int) : Entry := ⟨mkB k, ⟨k + 1, k + 2⟩, ⟨mkTwos e.run.reads (k + 3), mkTwos e.run.puts (k + 3 + 2 * e.run.reads.length), k + 3 + 2 * e.run.reads.length + 2 * e.run.puts.length, k + 4 + 2 * e.run.reads.length + 2 * e.run.puts.length⟩⟩
def mkRun (r : Run) (k : Int) : Run := ⟨mkTwos r.reads k, mkTwos r.puts (k + 2 * r.reads.length), r.c, r.d⟩
def mkRunE (e : Entry) (k : Int) : Entry := ⟨e.none, e.q, mkRun e.run k⟩
def mkEntries (xs : List Entry) (k : Int) : List Entry := mkL mkEntry ctEntry xs k
def ctEntries (xs : List Entry) : Int := ctL ctEntry xs
def ctVote (v : Vote) : Int := 6 + 2 * v.e.run.reads.length + 2 * v.e.run.puts.length
def mkVote (v : Vote) (k : Int) : Vote := ⟨k, ⟨mkB (k + 1), ⟨k + 2, k + 3⟩, ⟨mkTwos v.e.run.reads (k + 4), mkTwos v.e.run.puts (k + 4 + 2 * v.e.run.reads.length), k + 4 + 2 * v.e.run.reads.length + 2 * v.e.run.puts.length, k + 5 + 2 * v.e.run.reads.length + 2 * v.e.run.puts.length⟩⟩⟩
def mkVotes (xs : List Vote) (k : Int) : List Vote := mkL mkVote ctVote xs k
def ctVotes (xs : List Vote) : Int := ctL ctVote xs
def mkAcc (a : Acc) (k : Int) : Acc := ⟨a.p, mkVotes a.votes k⟩
theorem ctTwos (xs : List Two) : ctL (ctK 2) xs = 2 * xs.length := ctL_const xs
theorem ctEntry_bd {e : Entry} (h : e.ok lim) : 0 ≤ ctEntry e ∧ ctEntry e ≤ 5000000 := by
  have h1 : e.run.reads.length ≤ 1048576 := h.1
  have h2 : e.run.puts.length ≤ 1048576 := h.2
  unfold ctEntry; omega
theorem ctVote_bd {e : Vote} (h : e.ok lim) : 0 ≤ ctVote e ∧ ctVote e ≤ 5000001 := by
  have h1 : e.e.run.reads.length ≤ 1048576 := h.1
  have h2 : e.e.run.puts.length ≤ 1048576 := h.2
  unfold ctVote; omega
end Mg
