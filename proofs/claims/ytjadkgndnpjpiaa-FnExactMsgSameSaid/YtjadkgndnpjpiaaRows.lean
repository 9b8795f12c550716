/-
  No cell of these rows narrows 'for every input' (looked for: loops, veiled, ifaces, maps, wideKeys, modest, calm, conditions, laid).
  DERIVED. THE GIVEN ROWS OF THIS SEAT. 5 by the template 'for every input the law returns true; each argument reads behind the call as it read before'; 0 by the template 'total and deterministic' (their statements: YtjadkgndnpjpiaaTotals.lean).
  GIVEN WITH THE SEED: the statements are not yours to turn. If you find one false, say at which input.
  Laid BY PROGRAM, IN A SANDBOX (cutbox-rows.mjs): the forced cells as the released guide's own fill.sh prints them over the translation ba82b7a51c48d23a… (all of the seat's roots in one cut). By AI agents, Wed Nov 11 2026. No macro, syntax, notation, axiom, sorry.
-/
import Derived.Test.YtjadkgndnpjpiaaChecked
import GoSem.Claim
import GoSem.ClaimJoined
import GoSem.ClaimMapViews
import Derived.JoinedTies
import Derived.KernelRfl
namespace Go.Proofs.Ytjadkgndnpjpiaa
/- THE CELL 'sum', in the pinned program and in every row, IS THE sha256 OF THE DUMP (.gsa) THAT YtjadkgndnpjpiaaProg.lean LOADS. Nothing in Lean hashes anything: it is a label: what it is worth is what the hold of that sum in a sandbox is worth. -/
noncomputable def Try.pinned : Pinned := { name := "ytjadkgndnpjpiaa", sum := "ba82b7a51c48d23a6ad08f2006a35e9b59f4699d8ed810b1c128532268143083", checked := Try.checked }
namespace Rows
def none {H : Type} : Left H := { results := [], args := [] }

/-- 'laws.FnExactAccNext': WHATEVER THE INPUT: true; the input reads as it did. -/
def fnExactAccNextSpec : ChangeSpec := { name := "fnExactAccNext", fn := fun _ => fun
  | [d1, d2] => { results := [.lit (.bool true)], args := [d1, d2] }
  | _ => none }
def fnExactAccNextRow : OpenClaim := { program := "ytjadkgndnpjpiaa", sum := "ba82b7a51c48d23a6ad08f2006a35e9b59f4699d8ed810b1c128532268143083", func := "loop.example/thingstead/laws.FnExactAccNext", spec := "fnExactAccNext", apart := false }
def FnExactAccNextSaid : Prop := fnExactAccNextRow.holds Try.pinned (OpenSpec.ofChange fnExactAccNextSpec)

/-- ITS FALSE NEIGHBOUR: 'it returns false'. Refute it at one input. -/
def fnExactAccNextWrong : ChangeSpec := { name := "fnExactAccNext", fn := fun _ => fun
  | [d1, d2] => { results := [.lit (.bool false)], args := [d1, d2] }
  | _ => none }
def FnExactAccNextWrongFalsely : Prop := fnExactAccNextRow.holds Try.pinned (OpenSpec.ofChange fnExactAccNextWrong)

/-- 'laws.FnAccOwner': WHATEVER THE INPUT: true; the input reads as it did. -/
def fnAccOwnerSpec : ChangeSpec := { name := "fnAccOwner", fn := fun _ => fun
  | [d] => { results := [.lit (.bool true)], args := [d] }
  | _ => none }
def fnAccOwnerRow : OpenClaim := { program := "ytjadkgndnpjpiaa", sum := "ba82b7a51c48d23a6ad08f2006a35e9b59f4699d8ed810b1c128532268143083", func := "loop.example/thingstead/laws.FnAccOwner", spec := "fnAccOwner", apart := false }
def FnAccOwnerSaid : Prop := fnAccOwnerRow.holds Try.pinned (OpenSpec.ofChange fnAccOwnerSpec)

/-- ITS FALSE NEIGHBOUR: 'it returns false'. Refute it at one input. -/
def fnAccOwnerWrong : ChangeSpec := { name := "fnAccOwner", fn := fun _ => fun
  | [d] => { results := [.lit (.bool false)], args := [d] }
  | _ => none }
def FnAccOwnerWrongFalsely : Prop := fnAccOwnerRow.holds Try.pinned (OpenSpec.ofChange fnAccOwnerWrong)

/-- 'laws.FnExactAccSame': WHATEVER THE INPUT: true; the input reads as it did. -/
def fnExactAccSameSpec : ChangeSpec := { name := "fnExactAccSame", fn := fun _ => fun
  | [d1, d2] => { results := [.lit (.bool true)], args := [d1, d2] }
  | _ => none }
def fnExactAccSameRow : OpenClaim := { program := "ytjadkgndnpjpiaa", sum := "ba82b7a51c48d23a6ad08f2006a35e9b59f4699d8ed810b1c128532268143083", func := "loop.example/thingstead/laws.FnExactAccSame", spec := "fnExactAccSame", apart := false }
def FnExactAccSameSaid : Prop := fnExactAccSameRow.holds Try.pinned (OpenSpec.ofChange fnExactAccSameSpec)

/-- ITS FALSE NEIGHBOUR: 'it returns false'. Refute it at one input. -/
def fnExactAccSameWrong : ChangeSpec := { name := "fnExactAccSame", fn := fun _ => fun
  | [d1, d2] => { results := [.lit (.bool false)], args := [d1, d2] }
  | _ => none }
def FnExactAccSameWrongFalsely : Prop := fnExactAccSameRow.holds Try.pinned (OpenSpec.ofChange fnExactAccSameWrong)

/-- 'laws.FnExactMsgSame': WHATEVER THE INPUT: true; the input reads as it did. -/
def fnExactMsgSameSpec : ChangeSpec := { name := "fnExactMsgSame", fn := fun _ => fun
  | [d1, d2] => { results := [.lit (.bool true)], args := [d1, d2] }
  | _ => none }
def fnExactMsgSameRow : OpenClaim := { program := "ytjadkgndnpjpiaa", sum := "ba82b7a51c48d23a6ad08f2006a35e9b59f4699d8ed810b1c128532268143083", func := "loop.example/thingstead/laws.FnExactMsgSame", spec := "fnExactMsgSame", apart := false }
def FnExactMsgSameSaid : Prop := fnExactMsgSameRow.holds Try.pinned (OpenSpec.ofChange fnExactMsgSameSpec)

/-- ITS FALSE NEIGHBOUR: 'it returns false'. Refute it at one input. -/
def fnExactMsgSameWrong : ChangeSpec := { name := "fnExactMsgSame", fn := fun _ => fun
  | [d1, d2] => { results := [.lit (.bool false)], args := [d1, d2] }
  | _ => none }
def FnExactMsgSameWrongFalsely : Prop := fnExactMsgSameRow.holds Try.pinned (OpenSpec.ofChange fnExactMsgSameWrong)

/-- 'laws.FnExactAccOk': WHATEVER THE INPUT: true; the input reads as it did. -/
def fnExactAccOkSpec : ChangeSpec := { name := "fnExactAccOk", fn := fun _ => fun
  | [d] => { results := [.lit (.bool true)], args := [d] }
  | _ => none }
def fnExactAccOkRow : OpenClaim := { program := "ytjadkgndnpjpiaa", sum := "ba82b7a51c48d23a6ad08f2006a35e9b59f4699d8ed810b1c128532268143083", func := "loop.example/thingstead/laws.FnExactAccOk", spec := "fnExactAccOk", apart := false }
def FnExactAccOkSaid : Prop := fnExactAccOkRow.holds Try.pinned (OpenSpec.ofChange fnExactAccOkSpec)

/-- ITS FALSE NEIGHBOUR: 'it returns false'. Refute it at one input. -/
def fnExactAccOkWrong : ChangeSpec := { name := "fnExactAccOk", fn := fun _ => fun
  | [d] => { results := [.lit (.bool false)], args := [d] }
  | _ => none }
def FnExactAccOkWrongFalsely : Prop := fnExactAccOkRow.holds Try.pinned (OpenSpec.ofChange fnExactAccOkWrong)

/- THE SECOND FORM. 'bulk': how many values and letters a reading holds, each counted each time it is reached (what is shared counts as often as it is met; a slice's spare places count too). A statement '..UptoSaid' is the law's where the arguments, and the package variables that the reading takes, are together of bulk at most 1048576: NARROWER than '..Said'. Prove '..Said' where nothing that the law and all that it calls make is longer than what came in: it says more and counts as full. Else prove '..UptoSaid'. A law counts once. -/
mutual
def uptoBulk {H : Type} : DataW H → Nat
  | .lit (.string bytes) => bytes.length + 1
  | .lit _ => 1
  | .nil => 1
  | .ptr d => uptoBulk d + 1
  | .slice elems spare => uptoBulkAll elems + uptoBulkAll spare + 1
  | .agg parts => uptoBulkAll parts + 1
  | .iface _ d => uptoBulk d + 1
  | .map entries => uptoBulkEntries entries + 1
  | .held _ => 1
def uptoBulkAll {H : Type} : List (DataW H) → Nat
  | [] => 0
  | d :: r => uptoBulk d + uptoBulkAll r
def uptoBulkEntries {H : Type} : List (Lit × DataW H) → Nat
  | [] => 0
  | x :: r => uptoBulkEntry x + uptoBulkEntries r
def uptoBulkEntry {H : Type} : Lit × DataW H → Nat
  | (.string bytes, d) => bytes.length + uptoBulk d + 1
  | (_, d) => uptoBulk d + 1
 end
def uptoSmall : (H : Type) → List (DataW H) → Bool := fun _ ds => decide (uptoBulkAll ds ≤ 1048576)
def OpenSpec.upto (s : _root_.Go.ChangeSpec) : _root_.Go.OpenSpec := { _root_.Go.OpenSpec.ofChange s with cond := some uptoSmall }

/-- 'laws.FnExactAccNext', WHERE WHAT IT READS IS OF BULK AT MOST 1048576: true; the input reads as it did. -/
def fnExactAccNextUptoRow : OpenClaim := { program := "ytjadkgndnpjpiaa", sum := "ba82b7a51c48d23a6ad08f2006a35e9b59f4699d8ed810b1c128532268143083", func := "loop.example/thingstead/laws.FnExactAccNext", spec := "fnExactAccNext", apart := false, narrowed := true }
def FnExactAccNextUptoSaid : Prop := fnExactAccNextUptoRow.holds Try.pinned (OpenSpec.upto fnExactAccNextSpec)

/-- 'laws.FnAccOwner', WHERE WHAT IT READS IS OF BULK AT MOST 1048576: true; the input reads as it did. -/
def fnAccOwnerUptoRow : OpenClaim := { program := "ytjadkgndnpjpiaa", sum := "ba82b7a51c48d23a6ad08f2006a35e9b59f4699d8ed810b1c128532268143083", func := "loop.example/thingstead/laws.FnAccOwner", spec := "fnAccOwner", apart := false, narrowed := true }
def FnAccOwnerUptoSaid : Prop := fnAccOwnerUptoRow.holds Try.pinned (OpenSpec.upto fnAccOwnerSpec)

/-- 'laws.FnExactAccSame', WHERE WHAT IT READS IS OF BULK AT MOST 1048576: true; the input reads as it did. -/
def fnExactAccSameUptoRow : OpenClaim := { program := "ytjadkgndnpjpiaa", sum := "ba82b7a51c48d23a6ad08f2006a35e9b59f4699d8ed810b1c128532268143083", func := "loop.example/thingstead/laws.FnExactAccSame", spec := "fnExactAccSame", apart := false, narrowed := true }
def FnExactAccSameUptoSaid : Prop := fnExactAccSameUptoRow.holds Try.pinned (OpenSpec.upto fnExactAccSameSpec)

/-- 'laws.FnExactMsgSame', WHERE WHAT IT READS IS OF BULK AT MOST 1048576: true; the input reads as it did. -/
def fnExactMsgSameUptoRow : OpenClaim := { program := "ytjadkgndnpjpiaa", sum := "ba82b7a51c48d23a6ad08f2006a35e9b59f4699d8ed810b1c128532268143083", func := "loop.example/thingstead/laws.FnExactMsgSame", spec := "fnExactMsgSame", apart := false, narrowed := true }
def FnExactMsgSameUptoSaid : Prop := fnExactMsgSameUptoRow.holds Try.pinned (OpenSpec.upto fnExactMsgSameSpec)

/-- 'laws.FnExactAccOk', WHERE WHAT IT READS IS OF BULK AT MOST 1048576: true; the input reads as it did. -/
def fnExactAccOkUptoRow : OpenClaim := { program := "ytjadkgndnpjpiaa", sum := "ba82b7a51c48d23a6ad08f2006a35e9b59f4699d8ed810b1c128532268143083", func := "loop.example/thingstead/laws.FnExactAccOk", spec := "fnExactAccOk", apart := false, narrowed := true }
def FnExactAccOkUptoSaid : Prop := fnExactAccOkUptoRow.holds Try.pinned (OpenSpec.upto fnExactAccOkSpec)

end Rows
end Go.Proofs.Ytjadkgndnpjpiaa
