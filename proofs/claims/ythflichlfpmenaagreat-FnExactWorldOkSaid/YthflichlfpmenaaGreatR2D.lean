/- The data of nodes and worlds. No condition. -/
import Derived.Test.YthflichlfpmenaaGreatR1M
namespace Mg
open Go Go.RowKit
set_option linter.unusedVariables false
structure Ins where
  kind : Int
  a : Int
  b : Int
  n : Int
  deriving DecidableEq, Inhabited
structure Told where
  node : Int
  q : Two
  code : Int
  val : Int
  deriving DecidableEq, Inhabited
structure Asked where
  q : Two
  prog : List Ins
  deriving DecidableEq, Inhabited
structure Node where
  id : Int
  acc : Acc
  known : List Entry
  seq : Int
  phase : Int
  bal : Int
  fro : List Bool
  best : List Vote
  cur : Entry
  votes : List Bool
  busy : Bool
  prog : List Ins
  want : Entry
  queue : List Entry
  deriving DecidableEq, Inhabited
structure World where
  nodes : List Node
  net : List Msg
  asked : List Asked
  told : List Told
  deriving DecidableEq, Inhabited
def Bool.cells (b : Bool) : List MC := [bo b]
def Ins.cells (x : Ins) : List MC := [i6 x.kind, i6 x.a, i6 x.b, i6 x.n]
def Told.cells (x : Told) : List MC := [i6 x.node] ++ x.q.cells ++ [i6 x.code, i6 x.val]
def Asked.cells (x : Asked) : List MC := x.q.cells ++ [.fz (x.prog.map Ins.cells)]
def Node.cells (x : Node) : List MC := [i6 x.id] ++ x.acc.cells ++ [.fz (x.known.map Entry.cells), i6 x.seq, i6 x.phase, i6 x.bal, .fz (x.fro.map Bool.cells), .fz (x.best.map Vote.cells)] ++ x.cur.cells ++
  [.fz (x.votes.map Bool.cells), bo x.busy, .fz (x.prog.map Ins.cells)] ++ x.want.cells ++ [.fz (x.queue.map Entry.cells)]
def World.cells (x : World) : List MC := [.fz (x.nodes.map Node.cells), .fz (x.net.map Msg.cells), .fz (x.asked.map Asked.cells), .fz (x.told.map Told.cells)]
def EntriesOk (n : Nat) (xs : List Entry) : Prop := xs.length ≤ n ∧ ∀ e ∈ xs, e.ok n
def Asked.ok (n : Nat) (x : Asked) : Prop := x.prog.length ≤ n
structure Node.ok (n : Nat) (x : Node) : Prop where
  acc : x.acc.ok n
  known : EntriesOk n x.known
  fro : x.fro.length ≤ n
  best : VotesOk n x.best
  cur : x.cur.ok n
  votes : x.votes.length ≤ n
  prog : x.prog.length ≤ n
  want : x.want.ok n
  queue : EntriesOk n x.queue
structure World.ok (n : Nat) (x : World) : Prop where
  nodes : x.nodes.length ≤ n ∧ ∀ y ∈ x.nodes, y.ok n
  net : x.net.length ≤ n ∧ ∀ y ∈ x.net, y.ok n
  asked : x.asked.length ≤ n ∧ ∀ y ∈ x.asked, y.ok n
  told : x.told.length ≤ n
theorem Bool.frz (x : Bool) : (Bool.cells x).all MC.frz = true := rfl
theorem Bool.flat (x : Bool) : (Bool.cells x).all MC.flat = true := rfl
theorem Ins.frz (x : Ins) : x.cells.all MC.frz = true := rfl
theorem Ins.flat (x : Ins) : x.cells.all MC.flat = true := rfl
theorem Told.frz (x : Told) : x.cells.all MC.frz = true := rfl
theorem Told.flat (x : Told) : x.cells.all MC.flat = true := rfl
theorem Asked.frz (x : Asked) : x.cells.all MC.frz = true := rfl
theorem Asked.flat (x : Asked) : x.cells.all MC.flat = true := rfl
theorem Entry.flat (x : Entry) : x.cells.all MC.flat = true := rfl
theorem Msg.frz (x : Msg) : x.cells.all MC.frz = true := rfl
theorem Msg.flat (x : Msg) : x.cells.all MC.flat = true := rfl
theorem Node.frz (x : Node) : x.cells.all MC.frz = true := rfl
theorem Node.flat (x : Node) : x.cells.all MC.flat = true := rfl

/- What is left, reckoned. -/
structure SzOk (f : Int → Int) (p : Prop) : Prop where
  le : ∀ l : Int, 0 ≤ l → f l ≤ l
  ok : ∀ l : Int, 0 ≤ l → l ≤ (lim : Int) → 0 ≤ f l → p
theorem SzOk.imp {f : Int → Int} {p q : Prop} (h : SzOk f p) (hq : p → q) : SzOk f q := ⟨h.le, fun l h0 h1 h2 => hq (h.ok l h0 h1 h2)⟩
theorem SzOk.then_ {f g : Int → Int} {p q : Prop} (hf : SzOk f p) (hg : SzOk g q) : SzOk (fun l => thenI (f l) g) (p ∧ q) := by
  refine ⟨fun l h => ?_, fun l h0 h1 h => ?_⟩
  · have := hf.le l h
    simp only [thenI]; split
    · omega
    · have := hg.le (f l) (by omega); omega
  · obtain ⟨h2, h3⟩ := thenI_pos h
    have := hf.le l h0
    exact ⟨hf.ok l h0 h1 h2, hg.ok _ h2 (by omega) h3⟩
theorem SzOk.sg {f : Int → Int} {p : Prop} (hf : SzOk f p) : SzOk (fun l => Mg.sg (f l)) p :=
  ⟨fun l h => sg_le (hf.le l h) h, fun l h0 h1 h => hf.ok l h0 h1 (sg_pos h)⟩
theorem szOk_T (n : Nat) : SzOk (szT n) (n ≤ lim) :=
  ⟨fun l h => szT_le n h, fun l h0 h1 h => by have := (szT_ok h).1; omega⟩
def szS {α : Type} (f : α → Int → Int) (xs : List α) (l : Int) : Int := thenI (l - xs.length) (szL f xs)
theorem szL_all {α : Type} {f : α → Int → Int} {ok : α → Prop} (hf : ∀ x, SzOk (f x) (ok x)) : ∀ xs : List α, SzOk (szL f xs) (∀ x ∈ xs, ok x)
  | [] => ⟨fun l h => Int.le_refl _, fun l _ _ _ x hx => by simp at hx⟩
  | x :: xs => ((hf x).then_ (szL_all hf xs)).imp fun h y hy => by
    rcases List.mem_cons.1 hy with rfl | hy
    · exact h.1
    · exact h.2 y hy
theorem szOk_S {α : Type} {f : α → Int → Int} {ok : α → Prop} (hf : ∀ x, SzOk (f x) (ok x)) (xs : List α) : SzOk (szS f xs) (xs.length ≤ lim ∧ ∀ x ∈ xs, ok x) := by
  refine ⟨fun l h => ?_, fun l h0 h1 h => ?_⟩
  · unfold szS thenI
    split
    · omega
    · have := (szL_all hf xs).le (l - xs.length) (by omega); omega
  · obtain ⟨h2, h3⟩ := thenI_pos h
    exact ⟨by omega, (szL_all hf xs).ok _ h2 (by omega) h3⟩
theorem szOk_entry (x : Entry) : SzOk (szEntry x) (x.ok lim) := ⟨fun l h => szEntry_le x h, fun l h0 h1 h => szRun_ok h1 (sg_pos h)⟩
theorem szOk_vote (x : Vote) : SzOk (szVote x) (x.ok lim) := ⟨fun l h => szVote_le x h, fun l h0 h1 h => szVote_ok h1 h⟩
theorem szOk_votes (xs : List Vote) : SzOk (szVoteS xs) (VotesOk lim xs) := szOk_S szOk_vote xs
theorem szOk_acc (x : Acc) : SzOk (szAcc x) (x.ok lim) := ⟨fun l h => szAcc_le h, fun l h0 h1 h => szAcc_ok h1 h⟩
theorem szOk_entries (xs : List Entry) : SzOk (szS szEntry xs) (EntriesOk lim xs) := szOk_S szOk_entry xs
theorem szOk_msg (x : Msg) : SzOk (szMsg x) (x.ok lim) := ⟨fun l h => szMsg_le h, fun l h0 h1 h => szMsg_ok h0 h1 h⟩
def szNode (x : Node) (l : Int) : Int := thenI (szAcc x.acc l) fun l => thenI (szS szEntry x.known l) fun l => thenI (szT x.fro.length l) fun l => thenI (szVoteS x.best l) fun l => thenI (szEntry x.cur l) fun l =>
  thenI (szT x.votes.length l) fun l => thenI (szT x.prog.length l) fun l => thenI (szEntry x.want l) fun l => sg (szS szEntry x.queue l)
theorem szOk_node (x : Node) : SzOk (szNode x) (x.ok lim) :=
  ((szOk_acc x.acc).then_ <| (szOk_entries x.known).then_ <| (szOk_T x.fro.length).then_ <| (szOk_votes x.best).then_ <| (szOk_entry x.cur).then_ <| (szOk_T x.votes.length).then_ <| (szOk_T x.prog.length).then_ <| (szOk_entry x.want).then_ <| (szOk_entries x.queue).sg).imp
    fun ⟨h1, h2, h3, h4, h5, h6, h7, h8, h9⟩ => ⟨h1, h2, h3, h4, h5, h6, h7, h8, h9⟩
def szAsked (x : Asked) (l : Int) : Int := sg (szT x.prog.length l)
theorem szOk_asked (x : Asked) : SzOk (szAsked x) (x.ok lim) := (szOk_T x.prog.length).sg
def szWorld (x : World) (l : Int) : Int := thenI (szS szNode x.nodes l) fun l => thenI (szS szMsg x.net l) fun l => thenI (szS szAsked x.asked l) fun l => sg (szT x.told.length l)
theorem szOk_world (x : World) : SzOk (szWorld x) (x.ok lim) :=
  ((szOk_S szOk_node x.nodes).then_ <| (szOk_S szOk_msg x.net).then_ <| (szOk_S szOk_asked x.asked).then_ <| (szOk_T x.told.length).sg).imp fun ⟨h1, h2, h3, h4⟩ => ⟨h1, h2, h3, h4⟩
end Mg
