/-
  NARROWER THAN 'FOR EVERY INPUT', by the rows' own cells (each row's printed sentence says how): FnExactMsgEntry: laid · FnMsgEntry: laid · FnMsgKinds: laid · FnMsgVotes: laid · FnExactMsgText: laid · FnMsg: laid.
  DERIVED. THE GIVEN ROWS OF THIS SEAT. 6 by the template 'for every input the law returns true; each argument reads behind the call as it read before'; 0 by the template 'total and deterministic' (their statements: YtedgmfmhilihoaaDoorTotals.lean).
  GIVEN WITH THE SEED: the statements are not yours to turn. If you find one false, say at which input.
  Laid BY PROGRAM, IN A SANDBOX (cutbox-rows.mjs): the forced cells as the released guide's own fill.sh prints them over the translation fe1b6bb60eba12bc… (all of the seat's roots in one cut). By AI agents, Wed Nov 11 2026. No macro, syntax, notation, axiom, sorry.
-/
import Derived.Test.YtedgmfmhilihoaaDoorChecked
import GoSem.Claim
import GoSem.ClaimJoined
import GoSem.ClaimMapViews
import Derived.JoinedTies
import Derived.KernelRfl
namespace Go.Proofs.YtedgmfmhilihoaaDoor
/- THE CELL 'sum', in the pinned program and in every row, IS THE sha256 OF THE DUMP (.gsa) THAT YtedgmfmhilihoaaDoorProg.lean LOADS. Nothing in Lean hashes anything: it is a label: what it is worth is what the hold of that sum in a sandbox is worth. -/
noncomputable def Tryd.pinned : Pinned := { name := "ytedgmfmhilihoaadoor", sum := "fe1b6bb60eba12bcb534534415ac873b3c87be790937375fb397249a5cffabd1", checked := Tryd.checked }
namespace Rows
def none {H : Type} : Left H := { results := [], args := [] }

/- WHAT THE LISTED PACKAGE-LEVEL VARIABLES READ AS WHEN THE CALL BEGINS. Each datum BY PROGRAM (the guide's laid-datum.mjs) off the statement by which the dump's own 'gosem.cut.vars' lays the variable. In a bare row this is a premise. The card (YtedgmfmhilihoaaDoorCards.lean) ties it to the program's text. -/
def laid_math_bits_deBruijn32tab {H : Type} : DataW H := .agg [.lit (.int .u8 0), .lit (.int .u8 1), .lit (.int .u8 28), .lit (.int .u8 2), .lit (.int .u8 29), .lit (.int .u8 14), .lit (.int .u8 24), .lit (.int .u8 3), .lit (.int .u8 30), .lit (.int .u8 22), .lit (.int .u8 20), .lit (.int .u8 15), .lit (.int .u8 25), .lit (.int .u8 17), .lit (.int .u8 4), .lit (.int .u8 8), .lit (.int .u8 31), .lit (.int .u8 27), .lit (.int .u8 13), .lit (.int .u8 23), .lit (.int .u8 21), .lit (.int .u8 19), .lit (.int .u8 16), .lit (.int .u8 7), .lit (.int .u8 26), .lit (.int .u8 12), .lit (.int .u8 18), .lit (.int .u8 6), .lit (.int .u8 11), .lit (.int .u8 5), .lit (.int .u8 10), .lit (.int .u8 9)]
def laid_math_bits_deBruijn64tab {H : Type} : DataW H := .agg [.lit (.int .u8 0), .lit (.int .u8 1), .lit (.int .u8 56), .lit (.int .u8 2), .lit (.int .u8 57), .lit (.int .u8 49), .lit (.int .u8 28), .lit (.int .u8 3), .lit (.int .u8 61), .lit (.int .u8 58), .lit (.int .u8 42), .lit (.int .u8 50), .lit (.int .u8 38), .lit (.int .u8 29), .lit (.int .u8 17), .lit (.int .u8 4), .lit (.int .u8 62), .lit (.int .u8 47), .lit (.int .u8 59), .lit (.int .u8 36), .lit (.int .u8 45), .lit (.int .u8 43), .lit (.int .u8 51), .lit (.int .u8 22), .lit (.int .u8 53), .lit (.int .u8 39), .lit (.int .u8 33), .lit (.int .u8 30), .lit (.int .u8 24), .lit (.int .u8 18), .lit (.int .u8 12), .lit (.int .u8 5), .lit (.int .u8 63), .lit (.int .u8 55), .lit (.int .u8 48), .lit (.int .u8 27), .lit (.int .u8 60), .lit (.int .u8 41), .lit (.int .u8 37), .lit (.int .u8 16), .lit (.int .u8 46), .lit (.int .u8 35), .lit (.int .u8 44), .lit (.int .u8 21), .lit (.int .u8 52), .lit (.int .u8 32), .lit (.int .u8 23), .lit (.int .u8 11), .lit (.int .u8 54), .lit (.int .u8 26), .lit (.int .u8 40), .lit (.int .u8 15), .lit (.int .u8 34), .lit (.int .u8 20), .lit (.int .u8 31), .lit (.int .u8 10), .lit (.int .u8 25), .lit (.int .u8 14), .lit (.int .u8 19), .lit (.int .u8 9), .lit (.int .u8 13), .lit (.int .u8 8), .lit (.int .u8 7), .lit (.int .u8 6)]
def laid_internal_strconv_uint64pow10 {H : Type} : DataW H := .agg [.lit (.int .u64 1), .lit (.int .u64 10), .lit (.int .u64 100), .lit (.int .u64 1000), .lit (.int .u64 10000), .lit (.int .u64 100000), .lit (.int .u64 1000000), .lit (.int .u64 10000000), .lit (.int .u64 100000000), .lit (.int .u64 1000000000), .lit (.int .u64 10000000000), .lit (.int .u64 100000000000), .lit (.int .u64 1000000000000), .lit (.int .u64 10000000000000), .lit (.int .u64 100000000000000), .lit (.int .u64 1000000000000000), .lit (.int .u64 10000000000000000), .lit (.int .u64 100000000000000000), .lit (.int .u64 1000000000000000000), .lit (.int .u64 10000000000000000000)]

/-- 'laws.FnExactMsgEntry': WHATEVER THE INPUT: true; the input reads as it did. -/
def fnExactMsgEntrySpec : ChangeSpec := { name := "fnExactMsgEntry", fn := fun _ => fun
  | [d] => { results := [.lit (.bool true)], args := [d] }
  | _ => none }
def fnExactMsgEntryRow : OpenClaim := { program := "ytedgmfmhilihoaadoor", sum := "fe1b6bb60eba12bcb534534415ac873b3c87be790937375fb397249a5cffabd1", func := "loop.example/thingstead/laws.FnExactMsgEntry", spec := "fnExactMsgEntry", inPlace := ["internal/abi.NoEscape"], recurses := true, named := ["internal/strconv.uint64pow10", "math/bits.deBruijn32tab", "math/bits.deBruijn64tab"], apart := false, laid := [("math/bits.deBruijn32tab", laid_math_bits_deBruijn32tab), ("math/bits.deBruijn64tab", laid_math_bits_deBruijn64tab), ("internal/strconv.uint64pow10", laid_internal_strconv_uint64pow10)] }
def FnExactMsgEntrySaid : Prop := fnExactMsgEntryRow.holds Tryd.pinned (OpenSpec.ofChange fnExactMsgEntrySpec)

/-- ITS FALSE NEIGHBOUR: 'it returns false'. Refute it at one input. -/
def fnExactMsgEntryWrong : ChangeSpec := { name := "fnExactMsgEntry", fn := fun _ => fun
  | [d] => { results := [.lit (.bool false)], args := [d] }
  | _ => none }
def FnExactMsgEntryWrongFalsely : Prop := fnExactMsgEntryRow.holds Tryd.pinned (OpenSpec.ofChange fnExactMsgEntryWrong)

/-- 'laws.FnMsgEntry': WHATEVER THE INPUT: true; the input reads as it did. -/
def fnMsgEntrySpec : ChangeSpec := { name := "fnMsgEntry", fn := fun _ => fun
  | [d1, d2] => { results := [.lit (.bool true)], args := [d1, d2] }
  | _ => none }
def fnMsgEntryRow : OpenClaim := { program := "ytedgmfmhilihoaadoor", sum := "fe1b6bb60eba12bcb534534415ac873b3c87be790937375fb397249a5cffabd1", func := "loop.example/thingstead/laws.FnMsgEntry", spec := "fnMsgEntry", inPlace := ["internal/abi.NoEscape"], recurses := true, named := ["internal/strconv.uint64pow10", "math/bits.deBruijn32tab", "math/bits.deBruijn64tab"], apart := false, laid := [("math/bits.deBruijn32tab", laid_math_bits_deBruijn32tab), ("math/bits.deBruijn64tab", laid_math_bits_deBruijn64tab), ("internal/strconv.uint64pow10", laid_internal_strconv_uint64pow10)] }
def FnMsgEntrySaid : Prop := fnMsgEntryRow.holds Tryd.pinned (OpenSpec.ofChange fnMsgEntrySpec)

/-- ITS FALSE NEIGHBOUR: 'it returns false'. Refute it at one input. -/
def fnMsgEntryWrong : ChangeSpec := { name := "fnMsgEntry", fn := fun _ => fun
  | [d1, d2] => { results := [.lit (.bool false)], args := [d1, d2] }
  | _ => none }
def FnMsgEntryWrongFalsely : Prop := fnMsgEntryRow.holds Tryd.pinned (OpenSpec.ofChange fnMsgEntryWrong)

/-- 'laws.FnMsgKinds': WHATEVER THE INPUT: true; the input reads as it did. -/
def fnMsgKindsSpec : ChangeSpec := { name := "fnMsgKinds", fn := fun _ => fun
  | [d] => { results := [.lit (.bool true)], args := [d] }
  | _ => none }
def fnMsgKindsRow : OpenClaim := { program := "ytedgmfmhilihoaadoor", sum := "fe1b6bb60eba12bcb534534415ac873b3c87be790937375fb397249a5cffabd1", func := "loop.example/thingstead/laws.FnMsgKinds", spec := "fnMsgKinds", inPlace := ["internal/abi.NoEscape"], named := ["internal/strconv.uint64pow10", "math/bits.deBruijn32tab", "math/bits.deBruijn64tab"], apart := false, laid := [("math/bits.deBruijn32tab", laid_math_bits_deBruijn32tab), ("math/bits.deBruijn64tab", laid_math_bits_deBruijn64tab), ("internal/strconv.uint64pow10", laid_internal_strconv_uint64pow10)] }
def FnMsgKindsSaid : Prop := fnMsgKindsRow.holds Tryd.pinned (OpenSpec.ofChange fnMsgKindsSpec)

/-- ITS FALSE NEIGHBOUR: 'it returns false'. Refute it at one input. -/
def fnMsgKindsWrong : ChangeSpec := { name := "fnMsgKinds", fn := fun _ => fun
  | [d] => { results := [.lit (.bool false)], args := [d] }
  | _ => none }
def FnMsgKindsWrongFalsely : Prop := fnMsgKindsRow.holds Tryd.pinned (OpenSpec.ofChange fnMsgKindsWrong)

/-- 'laws.FnMsgVotes': WHATEVER THE INPUT: true; the input reads as it did. -/
def fnMsgVotesSpec : ChangeSpec := { name := "fnMsgVotes", fn := fun _ => fun
  | [d] => { results := [.lit (.bool true)], args := [d] }
  | _ => none }
def fnMsgVotesRow : OpenClaim := { program := "ytedgmfmhilihoaadoor", sum := "fe1b6bb60eba12bcb534534415ac873b3c87be790937375fb397249a5cffabd1", func := "loop.example/thingstead/laws.FnMsgVotes", spec := "fnMsgVotes", inPlace := ["internal/abi.NoEscape"], named := ["internal/strconv.uint64pow10", "math/bits.deBruijn32tab", "math/bits.deBruijn64tab"], apart := false, laid := [("math/bits.deBruijn32tab", laid_math_bits_deBruijn32tab), ("math/bits.deBruijn64tab", laid_math_bits_deBruijn64tab), ("internal/strconv.uint64pow10", laid_internal_strconv_uint64pow10)] }
def FnMsgVotesSaid : Prop := fnMsgVotesRow.holds Tryd.pinned (OpenSpec.ofChange fnMsgVotesSpec)

/-- ITS FALSE NEIGHBOUR: 'it returns false'. Refute it at one input. -/
def fnMsgVotesWrong : ChangeSpec := { name := "fnMsgVotes", fn := fun _ => fun
  | [d] => { results := [.lit (.bool false)], args := [d] }
  | _ => none }
def FnMsgVotesWrongFalsely : Prop := fnMsgVotesRow.holds Tryd.pinned (OpenSpec.ofChange fnMsgVotesWrong)

/-- 'laws.FnExactMsgText': WHATEVER THE INPUT: true; the input reads as it did. -/
def fnExactMsgTextSpec : ChangeSpec := { name := "fnExactMsgText", fn := fun _ => fun
  | [d] => { results := [.lit (.bool true)], args := [d] }
  | _ => none }
def fnExactMsgTextRow : OpenClaim := { program := "ytedgmfmhilihoaadoor", sum := "fe1b6bb60eba12bcb534534415ac873b3c87be790937375fb397249a5cffabd1", func := "loop.example/thingstead/laws.FnExactMsgText", spec := "fnExactMsgText", inPlace := ["internal/abi.NoEscape"], recurses := true, named := ["internal/strconv.uint64pow10", "math/bits.deBruijn32tab", "math/bits.deBruijn64tab"], apart := false, laid := [("math/bits.deBruijn32tab", laid_math_bits_deBruijn32tab), ("math/bits.deBruijn64tab", laid_math_bits_deBruijn64tab), ("internal/strconv.uint64pow10", laid_internal_strconv_uint64pow10)] }
def FnExactMsgTextSaid : Prop := fnExactMsgTextRow.holds Tryd.pinned (OpenSpec.ofChange fnExactMsgTextSpec)

/-- ITS FALSE NEIGHBOUR: 'it returns false'. Refute it at one input. -/
def fnExactMsgTextWrong : ChangeSpec := { name := "fnExactMsgText", fn := fun _ => fun
  | [d] => { results := [.lit (.bool false)], args := [d] }
  | _ => none }
def FnExactMsgTextWrongFalsely : Prop := fnExactMsgTextRow.holds Tryd.pinned (OpenSpec.ofChange fnExactMsgTextWrong)

/-- 'laws.FnMsg': WHATEVER THE INPUT: true; the input reads as it did. -/
def fnMsgSpec : ChangeSpec := { name := "fnMsg", fn := fun _ => fun
  | [d1, d2] => { results := [.lit (.bool true)], args := [d1, d2] }
  | _ => none }
def fnMsgRow : OpenClaim := { program := "ytedgmfmhilihoaadoor", sum := "fe1b6bb60eba12bcb534534415ac873b3c87be790937375fb397249a5cffabd1", func := "loop.example/thingstead/laws.FnMsg", spec := "fnMsg", inPlace := ["internal/abi.NoEscape"], recurses := true, named := ["internal/strconv.uint64pow10", "math/bits.deBruijn32tab", "math/bits.deBruijn64tab"], apart := false, laid := [("math/bits.deBruijn32tab", laid_math_bits_deBruijn32tab), ("math/bits.deBruijn64tab", laid_math_bits_deBruijn64tab), ("internal/strconv.uint64pow10", laid_internal_strconv_uint64pow10)] }
def FnMsgSaid : Prop := fnMsgRow.holds Tryd.pinned (OpenSpec.ofChange fnMsgSpec)

/-- ITS FALSE NEIGHBOUR: 'it returns false'. Refute it at one input. -/
def fnMsgWrong : ChangeSpec := { name := "fnMsg", fn := fun _ => fun
  | [d1, d2] => { results := [.lit (.bool false)], args := [d1, d2] }
  | _ => none }
def FnMsgWrongFalsely : Prop := fnMsgRow.holds Tryd.pinned (OpenSpec.ofChange fnMsgWrong)

/- THE SECOND FORM. 'bulk': how many values and letters a reading holds, each counted each time it is reached (what is shared counts as often as it is met; a slice's spare places count too). A statement '..UptoSaid' is the law's where the arguments, and the package variables that the reading takes, are together of bulk at most 1048576: NARROWER than '..Said'. Prove '..Said' where nothing that the law and all that it calls make is longer than what came in: it says more and counts as full. Else prove '..UptoSaid'. A law counts once. -/
mutual
def uptoBulk {H : Type} : DataW H → Nat
  | .lit (.string bytes) => bytes.length + 1
  | .lit _ => 1
  | .nil => 1
  | .ptr d => uptoBulk d + 1
  | .slice elems spare => uptoBulkAll elems + uptoBulkAll spare + 1
  | .agg parts => uptoBulkAll parts + 1
  | .iface _ d => uptoBulk d + 1
  | .map entries => uptoBulkEntries entries + 1
  | .held _ => 1
def uptoBulkAll {H : Type} : List (DataW H) → Nat
  | [] => 0
  | d :: r => uptoBulk d + uptoBulkAll r
def uptoBulkEntries {H : Type} : List (Lit × DataW H) → Nat
  | [] => 0
  | x :: r => uptoBulkEntry x + uptoBulkEntries r
def uptoBulkEntry {H : Type} : Lit × DataW H → Nat
  | (.string bytes, d) => bytes.length + uptoBulk d + 1
  | (_, d) => uptoBulk d + 1
 end
def uptoSmall : (H : Type) → List (DataW H) → Bool := fun _ ds => decide (uptoBulkAll ds ≤ 1048576)
def OpenSpec.upto (s : _root_.Go.ChangeSpec) : _root_.Go.OpenSpec := { _root_.Go.OpenSpec.ofChange s with cond := some uptoSmall }

/-- 'laws.FnExactMsgEntry', WHERE WHAT IT READS IS OF BULK AT MOST 1048576: true; the input reads as it did. -/
def fnExactMsgEntryUptoRow : OpenClaim := { program := "ytedgmfmhilihoaadoor", sum := "fe1b6bb60eba12bcb534534415ac873b3c87be790937375fb397249a5cffabd1", func := "loop.example/thingstead/laws.FnExactMsgEntry", spec := "fnExactMsgEntry", inPlace := ["internal/abi.NoEscape"], recurses := true, named := ["internal/strconv.uint64pow10", "math/bits.deBruijn32tab", "math/bits.deBruijn64tab"], apart := false, laid := [("math/bits.deBruijn32tab", laid_math_bits_deBruijn32tab), ("math/bits.deBruijn64tab", laid_math_bits_deBruijn64tab), ("internal/strconv.uint64pow10", laid_internal_strconv_uint64pow10)], narrowed := true }
def FnExactMsgEntryUptoSaid : Prop := fnExactMsgEntryUptoRow.holds Tryd.pinned (OpenSpec.upto fnExactMsgEntrySpec)

/-- 'laws.FnMsgEntry', WHERE WHAT IT READS IS OF BULK AT MOST 1048576: true; the input reads as it did. -/
def fnMsgEntryUptoRow : OpenClaim := { program := "ytedgmfmhilihoaadoor", sum := "fe1b6bb60eba12bcb534534415ac873b3c87be790937375fb397249a5cffabd1", func := "loop.example/thingstead/laws.FnMsgEntry", spec := "fnMsgEntry", inPlace := ["internal/abi.NoEscape"], recurses := true, named := ["internal/strconv.uint64pow10", "math/bits.deBruijn32tab", "math/bits.deBruijn64tab"], apart := false, laid := [("math/bits.deBruijn32tab", laid_math_bits_deBruijn32tab), ("math/bits.deBruijn64tab", laid_math_bits_deBruijn64tab), ("internal/strconv.uint64pow10", laid_internal_strconv_uint64pow10)], narrowed := true }
def FnMsgEntryUptoSaid : Prop := fnMsgEntryUptoRow.holds Tryd.pinned (OpenSpec.upto fnMsgEntrySpec)

/-- 'laws.FnMsgKinds', WHERE WHAT IT READS IS OF BULK AT MOST 1048576: true; the input reads as it did. -/
def fnMsgKindsUptoRow : OpenClaim := { program := "ytedgmfmhilihoaadoor", sum := "fe1b6bb60eba12bcb534534415ac873b3c87be790937375fb397249a5cffabd1", func := "loop.example/thingstead/laws.FnMsgKinds", spec := "fnMsgKinds", inPlace := ["internal/abi.NoEscape"], named := ["internal/strconv.uint64pow10", "math/bits.deBruijn32tab", "math/bits.deBruijn64tab"], apart := false, laid := [("math/bits.deBruijn32tab", laid_math_bits_deBruijn32tab), ("math/bits.deBruijn64tab", laid_math_bits_deBruijn64tab), ("internal/strconv.uint64pow10", laid_internal_strconv_uint64pow10)], narrowed := true }
def FnMsgKindsUptoSaid : Prop := fnMsgKindsUptoRow.holds Tryd.pinned (OpenSpec.upto fnMsgKindsSpec)

/-- 'laws.FnMsgVotes', WHERE WHAT IT READS IS OF BULK AT MOST 1048576: true; the input reads as it did. -/
def fnMsgVotesUptoRow : OpenClaim := { program := "ytedgmfmhilihoaadoor", sum := "fe1b6bb60eba12bcb534534415ac873b3c87be790937375fb397249a5cffabd1", func := "loop.example/thingstead/laws.FnMsgVotes", spec := "fnMsgVotes", inPlace := ["internal/abi.NoEscape"], named := ["internal/strconv.uint64pow10", "math/bits.deBruijn32tab", "math/bits.deBruijn64tab"], apart := false, laid := [("math/bits.deBruijn32tab", laid_math_bits_deBruijn32tab), ("math/bits.deBruijn64tab", laid_math_bits_deBruijn64tab), ("internal/strconv.uint64pow10", laid_internal_strconv_uint64pow10)], narrowed := true }
def FnMsgVotesUptoSaid : Prop := fnMsgVotesUptoRow.holds Tryd.pinned (OpenSpec.upto fnMsgVotesSpec)

/-- 'laws.FnExactMsgText', WHERE WHAT IT READS IS OF BULK AT MOST 1048576: true; the input reads as it did. -/
def fnExactMsgTextUptoRow : OpenClaim := { program := "ytedgmfmhilihoaadoor", sum := "fe1b6bb60eba12bcb534534415ac873b3c87be790937375fb397249a5cffabd1", func := "loop.example/thingstead/laws.FnExactMsgText", spec := "fnExactMsgText", inPlace := ["internal/abi.NoEscape"], recurses := true, named := ["internal/strconv.uint64pow10", "math/bits.deBruijn32tab", "math/bits.deBruijn64tab"], apart := false, laid := [("math/bits.deBruijn32tab", laid_math_bits_deBruijn32tab), ("math/bits.deBruijn64tab", laid_math_bits_deBruijn64tab), ("internal/strconv.uint64pow10", laid_internal_strconv_uint64pow10)], narrowed := true }
def FnExactMsgTextUptoSaid : Prop := fnExactMsgTextUptoRow.holds Tryd.pinned (OpenSpec.upto fnExactMsgTextSpec)

/-- 'laws.FnMsg', WHERE WHAT IT READS IS OF BULK AT MOST 1048576: true; the input reads as it did. -/
def fnMsgUptoRow : OpenClaim := { program := "ytedgmfmhilihoaadoor", sum := "fe1b6bb60eba12bcb534534415ac873b3c87be790937375fb397249a5cffabd1", func := "loop.example/thingstead/laws.FnMsg", spec := "fnMsg", inPlace := ["internal/abi.NoEscape"], recurses := true, named := ["internal/strconv.uint64pow10", "math/bits.deBruijn32tab", "math/bits.deBruijn64tab"], apart := false, laid := [("math/bits.deBruijn32tab", laid_math_bits_deBruijn32tab), ("math/bits.deBruijn64tab", laid_math_bits_deBruijn64tab), ("internal/strconv.uint64pow10", laid_internal_strconv_uint64pow10)], narrowed := true }
def FnMsgUptoSaid : Prop := fnMsgUptoRow.holds Tryd.pinned (OpenSpec.upto fnMsgSpec)

end Rows
end Go.Proofs.YtedgmfmhilihoaaDoor
