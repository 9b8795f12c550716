/-
  No cell of these rows narrows 'for every input' (looked for: loops, veiled, ifaces, maps, wideKeys, modest, calm, conditions, laid).
  DERIVED. THE GIVEN ROWS OF THIS SEAT. 10 by the template 'for every input the law returns true; each argument reads behind the call as it read before'; 0 by the template 'total and deterministic' (their statements: YtholjompohimnaaTotals.lean).
  GIVEN WITH THE SEED: the statements are not yours to turn. If you find one false, say at which input.
  Laid BY PROGRAM, IN A SANDBOX (cutbox-rows.mjs): the forced cells as the released guide's own fill.sh prints them over the translation cd8736d9afdf5511… (all of the seat's roots in one cut). By AI agents, Wed Nov 11 2026. No macro, syntax, notation, axiom, sorry.
-/
import Derived.Test.YtholjompohimnaaChecked
import GoSem.Claim
import GoSem.ClaimJoined
import GoSem.ClaimMapViews
import Derived.JoinedTies
import Derived.KernelRfl
namespace Go.Proofs.Ytholjompohimnaa
/- THE CELL 'sum', in the pinned program and in every row, IS THE sha256 OF THE DUMP (.gsa) THAT YtholjompohimnaaProg.lean LOADS. Nothing in Lean hashes anything: it is a label: what it is worth is what the hold of that sum in a sandbox is worth. -/
noncomputable def Try.pinned : Pinned := { name := "ytholjompohimnaa", sum := "cd8736d9afdf55119bb40d53d18dc53921968c705efcd4a18362508377a1946a", checked := Try.checked }
namespace Rows
def none {H : Type} : Left H := { results := [], args := [] }

/-- 'laws.FnExactAccOk': WHATEVER THE INPUT: true; the input reads as it did. -/
def fnExactAccOkSpec : ChangeSpec := { name := "fnExactAccOk", fn := fun _ => fun
  | [d] => { results := [.lit (.bool true)], args := [d] }
  | _ => none }
def fnExactAccOkRow : OpenClaim := { program := "ytholjompohimnaa", sum := "cd8736d9afdf55119bb40d53d18dc53921968c705efcd4a18362508377a1946a", func := "loop.example/thingstead/laws.FnExactAccOk", spec := "fnExactAccOk", apart := false }
def FnExactAccOkSaid : Prop := fnExactAccOkRow.holds Try.pinned (OpenSpec.ofChange fnExactAccOkSpec)

/-- ITS FALSE NEIGHBOUR: 'it returns false'. Refute it at one input. -/
def fnExactAccOkWrong : ChangeSpec := { name := "fnExactAccOk", fn := fun _ => fun
  | [d] => { results := [.lit (.bool false)], args := [d] }
  | _ => none }
def FnExactAccOkWrongFalsely : Prop := fnExactAccOkRow.holds Try.pinned (OpenSpec.ofChange fnExactAccOkWrong)

/-- 'laws.FnAccMerge': WHATEVER THE INPUT: true; the input reads as it did. -/
def fnAccMergeSpec : ChangeSpec := { name := "fnAccMerge", fn := fun _ => fun
  | [d1, d2] => { results := [.lit (.bool true)], args := [d1, d2] }
  | _ => none }
def fnAccMergeRow : OpenClaim := { program := "ytholjompohimnaa", sum := "cd8736d9afdf55119bb40d53d18dc53921968c705efcd4a18362508377a1946a", func := "loop.example/thingstead/laws.FnAccMerge", spec := "fnAccMerge", apart := false }
def FnAccMergeSaid : Prop := fnAccMergeRow.holds Try.pinned (OpenSpec.ofChange fnAccMergeSpec)

/-- ITS FALSE NEIGHBOUR: 'it returns false'. Refute it at one input. -/
def fnAccMergeWrong : ChangeSpec := { name := "fnAccMerge", fn := fun _ => fun
  | [d1, d2] => { results := [.lit (.bool false)], args := [d1, d2] }
  | _ => none }
def FnAccMergeWrongFalsely : Prop := fnAccMergeRow.holds Try.pinned (OpenSpec.ofChange fnAccMergeWrong)

/-- 'laws.FnAccTwo': WHATEVER THE INPUT: true; the input reads as it did. -/
def fnAccTwoSpec : ChangeSpec := { name := "fnAccTwo", fn := fun _ => fun
  | [d1, d2] => { results := [.lit (.bool true)], args := [d1, d2] }
  | _ => none }
def fnAccTwoRow : OpenClaim := { program := "ytholjompohimnaa", sum := "cd8736d9afdf55119bb40d53d18dc53921968c705efcd4a18362508377a1946a", func := "loop.example/thingstead/laws.FnAccTwo", spec := "fnAccTwo", apart := false }
def FnAccTwoSaid : Prop := fnAccTwoRow.holds Try.pinned (OpenSpec.ofChange fnAccTwoSpec)

/-- ITS FALSE NEIGHBOUR: 'it returns false'. Refute it at one input. -/
def fnAccTwoWrong : ChangeSpec := { name := "fnAccTwo", fn := fun _ => fun
  | [d1, d2] => { results := [.lit (.bool false)], args := [d1, d2] }
  | _ => none }
def FnAccTwoWrongFalsely : Prop := fnAccTwoRow.holds Try.pinned (OpenSpec.ofChange fnAccTwoWrong)

/-- 'laws.FnAccKeep': WHATEVER THE INPUT: true; the input reads as it did. -/
def fnAccKeepSpec : ChangeSpec := { name := "fnAccKeep", fn := fun _ => fun
  | [d1, d2] => { results := [.lit (.bool true)], args := [d1, d2] }
  | _ => none }
def fnAccKeepRow : OpenClaim := { program := "ytholjompohimnaa", sum := "cd8736d9afdf55119bb40d53d18dc53921968c705efcd4a18362508377a1946a", func := "loop.example/thingstead/laws.FnAccKeep", spec := "fnAccKeep", apart := false }
def FnAccKeepSaid : Prop := fnAccKeepRow.holds Try.pinned (OpenSpec.ofChange fnAccKeepSpec)

/-- ITS FALSE NEIGHBOUR: 'it returns false'. Refute it at one input. -/
def fnAccKeepWrong : ChangeSpec := { name := "fnAccKeep", fn := fun _ => fun
  | [d1, d2] => { results := [.lit (.bool false)], args := [d1, d2] }
  | _ => none }
def FnAccKeepWrongFalsely : Prop := fnAccKeepRow.holds Try.pinned (OpenSpec.ofChange fnAccKeepWrong)

/-- 'laws.FnExactMsgOk': WHATEVER THE INPUT: true; the input reads as it did. -/
def fnExactMsgOkSpec : ChangeSpec := { name := "fnExactMsgOk", fn := fun _ => fun
  | [d] => { results := [.lit (.bool true)], args := [d] }
  | _ => none }
def fnExactMsgOkRow : OpenClaim := { program := "ytholjompohimnaa", sum := "cd8736d9afdf55119bb40d53d18dc53921968c705efcd4a18362508377a1946a", func := "loop.example/thingstead/laws.FnExactMsgOk", spec := "fnExactMsgOk", apart := false }
def FnExactMsgOkSaid : Prop := fnExactMsgOkRow.holds Try.pinned (OpenSpec.ofChange fnExactMsgOkSpec)

/-- ITS FALSE NEIGHBOUR: 'it returns false'. Refute it at one input. -/
def fnExactMsgOkWrong : ChangeSpec := { name := "fnExactMsgOk", fn := fun _ => fun
  | [d] => { results := [.lit (.bool false)], args := [d] }
  | _ => none }
def FnExactMsgOkWrongFalsely : Prop := fnExactMsgOkRow.holds Try.pinned (OpenSpec.ofChange fnExactMsgOkWrong)

/-- 'laws.FnAccNext': WHATEVER THE INPUT: true; the input reads as it did. -/
def fnAccNextSpec : ChangeSpec := { name := "fnAccNext", fn := fun _ => fun
  | [d] => { results := [.lit (.bool true)], args := [d] }
  | _ => none }
def fnAccNextRow : OpenClaim := { program := "ytholjompohimnaa", sum := "cd8736d9afdf55119bb40d53d18dc53921968c705efcd4a18362508377a1946a", func := "loop.example/thingstead/laws.FnAccNext", spec := "fnAccNext", apart := false }
def FnAccNextSaid : Prop := fnAccNextRow.holds Try.pinned (OpenSpec.ofChange fnAccNextSpec)

/-- ITS FALSE NEIGHBOUR: 'it returns false'. Refute it at one input. -/
def fnAccNextWrong : ChangeSpec := { name := "fnAccNext", fn := fun _ => fun
  | [d] => { results := [.lit (.bool false)], args := [d] }
  | _ => none }
def FnAccNextWrongFalsely : Prop := fnAccNextRow.holds Try.pinned (OpenSpec.ofChange fnAccNextWrong)

/-- 'laws.FnAcc': WHATEVER THE INPUT: true; the input reads as it did. -/
def fnAccSpec : ChangeSpec := { name := "fnAcc", fn := fun _ => fun
  | [d] => { results := [.lit (.bool true)], args := [d] }
  | _ => none }
def fnAccRow : OpenClaim := { program := "ytholjompohimnaa", sum := "cd8736d9afdf55119bb40d53d18dc53921968c705efcd4a18362508377a1946a", func := "loop.example/thingstead/laws.FnAcc", spec := "fnAcc", apart := false }
def FnAccSaid : Prop := fnAccRow.holds Try.pinned (OpenSpec.ofChange fnAccSpec)

/-- ITS FALSE NEIGHBOUR: 'it returns false'. Refute it at one input. -/
def fnAccWrong : ChangeSpec := { name := "fnAcc", fn := fun _ => fun
  | [d] => { results := [.lit (.bool false)], args := [d] }
  | _ => none }
def FnAccWrongFalsely : Prop := fnAccRow.holds Try.pinned (OpenSpec.ofChange fnAccWrong)

/-- 'laws.FnExactAccBest': WHATEVER THE INPUT: true; the input reads as it did. -/
def fnExactAccBestSpec : ChangeSpec := { name := "fnExactAccBest", fn := fun _ => fun
  | [d1, d2] => { results := [.lit (.bool true)], args := [d1, d2] }
  | _ => none }
def fnExactAccBestRow : OpenClaim := { program := "ytholjompohimnaa", sum := "cd8736d9afdf55119bb40d53d18dc53921968c705efcd4a18362508377a1946a", func := "loop.example/thingstead/laws.FnExactAccBest", spec := "fnExactAccBest", apart := false }
def FnExactAccBestSaid : Prop := fnExactAccBestRow.holds Try.pinned (OpenSpec.ofChange fnExactAccBestSpec)

/-- ITS FALSE NEIGHBOUR: 'it returns false'. Refute it at one input. -/
def fnExactAccBestWrong : ChangeSpec := { name := "fnExactAccBest", fn := fun _ => fun
  | [d1, d2] => { results := [.lit (.bool false)], args := [d1, d2] }
  | _ => none }
def FnExactAccBestWrongFalsely : Prop := fnExactAccBestRow.holds Try.pinned (OpenSpec.ofChange fnExactAccBestWrong)

/-- 'laws.FnExactAccPromise': WHATEVER THE INPUT: true; the input reads as it did. -/
def fnExactAccPromiseSpec : ChangeSpec := { name := "fnExactAccPromise", fn := fun _ => fun
  | [d1, d2] => { results := [.lit (.bool true)], args := [d1, d2] }
  | _ => none }
def fnExactAccPromiseRow : OpenClaim := { program := "ytholjompohimnaa", sum := "cd8736d9afdf55119bb40d53d18dc53921968c705efcd4a18362508377a1946a", func := "loop.example/thingstead/laws.FnExactAccPromise", spec := "fnExactAccPromise", apart := false }
def FnExactAccPromiseSaid : Prop := fnExactAccPromiseRow.holds Try.pinned (OpenSpec.ofChange fnExactAccPromiseSpec)

/-- ITS FALSE NEIGHBOUR: 'it returns false'. Refute it at one input. -/
def fnExactAccPromiseWrong : ChangeSpec := { name := "fnExactAccPromise", fn := fun _ => fun
  | [d1, d2] => { results := [.lit (.bool false)], args := [d1, d2] }
  | _ => none }
def FnExactAccPromiseWrongFalsely : Prop := fnExactAccPromiseRow.holds Try.pinned (OpenSpec.ofChange fnExactAccPromiseWrong)

/-- 'laws.FnExactAccVote': WHATEVER THE INPUT: true; the input reads as it did. -/
def fnExactAccVoteSpec : ChangeSpec := { name := "fnExactAccVote", fn := fun _ => fun
  | [d1, d2, d3, d4] => { results := [.lit (.bool true)], args := [d1, d2, d3, d4] }
  | _ => none }
def fnExactAccVoteRow : OpenClaim := { program := "ytholjompohimnaa", sum := "cd8736d9afdf55119bb40d53d18dc53921968c705efcd4a18362508377a1946a", func := "loop.example/thingstead/laws.FnExactAccVote", spec := "fnExactAccVote", apart := false }
def FnExactAccVoteSaid : Prop := fnExactAccVoteRow.holds Try.pinned (OpenSpec.ofChange fnExactAccVoteSpec)

/-- ITS FALSE NEIGHBOUR: 'it returns false'. Refute it at one input. -/
def fnExactAccVoteWrong : ChangeSpec := { name := "fnExactAccVote", fn := fun _ => fun
  | [d1, d2, d3, d4] => { results := [.lit (.bool false)], args := [d1, d2, d3, d4] }
  | _ => none }
def FnExactAccVoteWrongFalsely : Prop := fnExactAccVoteRow.holds Try.pinned (OpenSpec.ofChange fnExactAccVoteWrong)

/- THE SECOND FORM. 'bulk': how many values and letters a reading holds, each counted each time it is reached (what is shared counts as often as it is met; a slice's spare places count too). A statement '..UptoSaid' is the law's where the arguments, and the package variables that the reading takes, are together of bulk at most 1048576: NARROWER than '..Said'. Prove '..Said' where nothing that the law and all that it calls make is longer than what came in: it says more and counts as full. Else prove '..UptoSaid'. A law counts once. -/
mutual
def uptoBulk {H : Type} : DataW H → Nat
  | .lit (.string bytes) => bytes.length + 1
  | .lit _ => 1
  | .nil => 1
  | .ptr d => uptoBulk d + 1
  | .slice elems spare => uptoBulkAll elems + uptoBulkAll spare + 1
  | .agg parts => uptoBulkAll parts + 1
  | .iface _ d => uptoBulk d + 1
  | .map entries => uptoBulkEntries entries + 1
  | .held _ => 1
def uptoBulkAll {H : Type} : List (DataW H) → Nat
  | [] => 0
  | d :: r => uptoBulk d + uptoBulkAll r
def uptoBulkEntries {H : Type} : List (Lit × DataW H) → Nat
  | [] => 0
  | x :: r => uptoBulkEntry x + uptoBulkEntries r
def uptoBulkEntry {H : Type} : Lit × DataW H → Nat
  | (.string bytes, d) => bytes.length + uptoBulk d + 1
  | (_, d) => uptoBulk d + 1
 end
def uptoSmall : (H : Type) → List (DataW H) → Bool := fun _ ds => decide (uptoBulkAll ds ≤ 1048576)
def OpenSpec.upto (s : _root_.Go.ChangeSpec) : _root_.Go.OpenSpec := { _root_.Go.OpenSpec.ofChange s with cond := some uptoSmall }

/-- 'laws.FnExactAccOk', WHERE WHAT IT READS IS OF BULK AT MOST 1048576: true; the input reads as it did. -/
def fnExactAccOkUptoRow : OpenClaim := { program := "ytholjompohimnaa", sum := "cd8736d9afdf55119bb40d53d18dc53921968c705efcd4a18362508377a1946a", func := "loop.example/thingstead/laws.FnExactAccOk", spec := "fnExactAccOk", apart := false, narrowed := true }
def FnExactAccOkUptoSaid : Prop := fnExactAccOkUptoRow.holds Try.pinned (OpenSpec.upto fnExactAccOkSpec)

/-- 'laws.FnAccMerge', WHERE WHAT IT READS IS OF BULK AT MOST 1048576: true; the input reads as it did. -/
def fnAccMergeUptoRow : OpenClaim := { program := "ytholjompohimnaa", sum := "cd8736d9afdf55119bb40d53d18dc53921968c705efcd4a18362508377a1946a", func := "loop.example/thingstead/laws.FnAccMerge", spec := "fnAccMerge", apart := false, narrowed := true }
def FnAccMergeUptoSaid : Prop := fnAccMergeUptoRow.holds Try.pinned (OpenSpec.upto fnAccMergeSpec)

/-- 'laws.FnAccTwo', WHERE WHAT IT READS IS OF BULK AT MOST 1048576: true; the input reads as it did. -/
def fnAccTwoUptoRow : OpenClaim := { program := "ytholjompohimnaa", sum := "cd8736d9afdf55119bb40d53d18dc53921968c705efcd4a18362508377a1946a", func := "loop.example/thingstead/laws.FnAccTwo", spec := "fnAccTwo", apart := false, narrowed := true }
def FnAccTwoUptoSaid : Prop := fnAccTwoUptoRow.holds Try.pinned (OpenSpec.upto fnAccTwoSpec)

/-- 'laws.FnAccKeep', WHERE WHAT IT READS IS OF BULK AT MOST 1048576: true; the input reads as it did. -/
def fnAccKeepUptoRow : OpenClaim := { program := "ytholjompohimnaa", sum := "cd8736d9afdf55119bb40d53d18dc53921968c705efcd4a18362508377a1946a", func := "loop.example/thingstead/laws.FnAccKeep", spec := "fnAccKeep", apart := false, narrowed := true }
def FnAccKeepUptoSaid : Prop := fnAccKeepUptoRow.holds Try.pinned (OpenSpec.upto fnAccKeepSpec)

/-- 'laws.FnExactMsgOk', WHERE WHAT IT READS IS OF BULK AT MOST 1048576: true; the input reads as it did. -/
def fnExactMsgOkUptoRow : OpenClaim := { program := "ytholjompohimnaa", sum := "cd8736d9afdf55119bb40d53d18dc53921968c705efcd4a18362508377a1946a", func := "loop.example/thingstead/laws.FnExactMsgOk", spec := "fnExactMsgOk", apart := false, narrowed := true }
def FnExactMsgOkUptoSaid : Prop := fnExactMsgOkUptoRow.holds Try.pinned (OpenSpec.upto fnExactMsgOkSpec)

/-- 'laws.FnAccNext', WHERE WHAT IT READS IS OF BULK AT MOST 1048576: true; the input reads as it did. -/
def fnAccNextUptoRow : OpenClaim := { program := "ytholjompohimnaa", sum := "cd8736d9afdf55119bb40d53d18dc53921968c705efcd4a18362508377a1946a", func := "loop.example/thingstead/laws.FnAccNext", spec := "fnAccNext", apart := false, narrowed := true }
def FnAccNextUptoSaid : Prop := fnAccNextUptoRow.holds Try.pinned (OpenSpec.upto fnAccNextSpec)

/-- 'laws.FnAcc', WHERE WHAT IT READS IS OF BULK AT MOST 1048576: true; the input reads as it did. -/
def fnAccUptoRow : OpenClaim := { program := "ytholjompohimnaa", sum := "cd8736d9afdf55119bb40d53d18dc53921968c705efcd4a18362508377a1946a", func := "loop.example/thingstead/laws.FnAcc", spec := "fnAcc", apart := false, narrowed := true }
def FnAccUptoSaid : Prop := fnAccUptoRow.holds Try.pinned (OpenSpec.upto fnAccSpec)

/-- 'laws.FnExactAccBest', WHERE WHAT IT READS IS OF BULK AT MOST 1048576: true; the input reads as it did. -/
def fnExactAccBestUptoRow : OpenClaim := { program := "ytholjompohimnaa", sum := "cd8736d9afdf55119bb40d53d18dc53921968c705efcd4a18362508377a1946a", func := "loop.example/thingstead/laws.FnExactAccBest", spec := "fnExactAccBest", apart := false, narrowed := true }
def FnExactAccBestUptoSaid : Prop := fnExactAccBestUptoRow.holds Try.pinned (OpenSpec.upto fnExactAccBestSpec)

/-- 'laws.FnExactAccPromise', WHERE WHAT IT READS IS OF BULK AT MOST 1048576: true; the input reads as it did. -/
def fnExactAccPromiseUptoRow : OpenClaim := { program := "ytholjompohimnaa", sum := "cd8736d9afdf55119bb40d53d18dc53921968c705efcd4a18362508377a1946a", func := "loop.example/thingstead/laws.FnExactAccPromise", spec := "fnExactAccPromise", apart := false, narrowed := true }
def FnExactAccPromiseUptoSaid : Prop := fnExactAccPromiseUptoRow.holds Try.pinned (OpenSpec.upto fnExactAccPromiseSpec)

/-- 'laws.FnExactAccVote', WHERE WHAT IT READS IS OF BULK AT MOST 1048576: true; the input reads as it did. -/
def fnExactAccVoteUptoRow : OpenClaim := { program := "ytholjompohimnaa", sum := "cd8736d9afdf55119bb40d53d18dc53921968c705efcd4a18362508377a1946a", func := "loop.example/thingstead/laws.FnExactAccVote", spec := "fnExactAccVote", apart := false, narrowed := true }
def FnExactAccVoteUptoSaid : Prop := fnExactAccVoteUptoRow.holds Try.pinned (OpenSpec.upto fnExactAccVoteSpec)

end Rows
end Go.Proofs.Ytholjompohimnaa
