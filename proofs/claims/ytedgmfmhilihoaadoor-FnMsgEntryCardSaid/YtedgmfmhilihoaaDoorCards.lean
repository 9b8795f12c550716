/-
  DERIVED. GIVEN WITH THE SEED: THE CARDS: each row of YtedgmfmhilihoaaDoorRows.lean that lists a variable, with what it lists TIED to the program's text (the seventh form; the later family's looks); each row that meets fmt, with fmt's text TOLD by the authors' own Lean function (tested against real Go, not proved from fmt's source: count such statements apart). THE CARD IS WHAT COUNTS. Prove the row's statement (the work); the ties are given (YtedgmfmhilihoaaDoorTie.lean); close each card by the builder's one call (the guide's Derived/Test/ToyasCard.lean, 'card_holds'). Laid BY PROGRAM, IN A SANDBOX (cutbox-door.mjs). By AI agents, Wed Nov 11 2026. No macro, syntax, notation, axiom, sorry.
-/
import Derived.Test.YtedgmfmhilihoaaDoorRows
import GoSem.ClaimSeven
namespace Go.Proofs.YtedgmfmhilihoaaDoor
namespace Rows

/-- THE TIED CARD OF 'laws.FnExactMsgEntry'. -/
def fnExactMsgEntryCard : Claim7 := { stood := { row := fnExactMsgEntryRow, standIns := [], harness := (true, "20c3b60bf1d2a6088757e06ec9a29380a38b2079ed67341e79618b408812a74b"), looks := false }, kinds := [], alts := [], laidByText := true, laidKinds := [.data, .data, .data], laidTests := true, laidLooks := .later }
def FnExactMsgEntryCardSaid : Prop := Claim7.holds Tryd.pinned (.plain (OpenSpec.ofChange fnExactMsgEntrySpec)) fnExactMsgEntryCard

/-- THE TIED CARD OF 'laws.FnMsgEntry'. -/
def fnMsgEntryCard : Claim7 := { stood := { row := fnMsgEntryRow, standIns := [], harness := (true, "20c3b60bf1d2a6088757e06ec9a29380a38b2079ed67341e79618b408812a74b"), looks := false }, kinds := [], alts := [], laidByText := true, laidKinds := [.data, .data, .data], laidTests := true, laidLooks := .later }
def FnMsgEntryCardSaid : Prop := Claim7.holds Tryd.pinned (.plain (OpenSpec.ofChange fnMsgEntrySpec)) fnMsgEntryCard

/-- THE TIED CARD OF 'laws.FnMsgKinds'. -/
def fnMsgKindsCard : Claim7 := { stood := { row := fnMsgKindsRow, standIns := [], harness := (true, "20c3b60bf1d2a6088757e06ec9a29380a38b2079ed67341e79618b408812a74b"), looks := false }, kinds := [], alts := [], laidByText := true, laidKinds := [.data, .data, .data], laidTests := true, laidLooks := .later }
def FnMsgKindsCardSaid : Prop := Claim7.holds Tryd.pinned (.plain (OpenSpec.ofChange fnMsgKindsSpec)) fnMsgKindsCard

/-- THE TIED CARD OF 'laws.FnMsgVotes'. -/
def fnMsgVotesCard : Claim7 := { stood := { row := fnMsgVotesRow, standIns := [], harness := (true, "20c3b60bf1d2a6088757e06ec9a29380a38b2079ed67341e79618b408812a74b"), looks := false }, kinds := [], alts := [], laidByText := true, laidKinds := [.data, .data, .data], laidTests := true, laidLooks := .later }
def FnMsgVotesCardSaid : Prop := Claim7.holds Tryd.pinned (.plain (OpenSpec.ofChange fnMsgVotesSpec)) fnMsgVotesCard

/-- THE TIED CARD OF 'laws.FnExactMsgText'. -/
def fnExactMsgTextCard : Claim7 := { stood := { row := fnExactMsgTextRow, standIns := [], harness := (true, "20c3b60bf1d2a6088757e06ec9a29380a38b2079ed67341e79618b408812a74b"), looks := false }, kinds := [], alts := [], laidByText := true, laidKinds := [.data, .data, .data], laidTests := true, laidLooks := .later }
def FnExactMsgTextCardSaid : Prop := Claim7.holds Tryd.pinned (.plain (OpenSpec.ofChange fnExactMsgTextSpec)) fnExactMsgTextCard

/-- THE TIED CARD OF 'laws.FnMsg'. -/
def fnMsgCard : Claim7 := { stood := { row := fnMsgRow, standIns := [], harness := (true, "20c3b60bf1d2a6088757e06ec9a29380a38b2079ed67341e79618b408812a74b"), looks := false }, kinds := [], alts := [], laidByText := true, laidKinds := [.data, .data, .data], laidTests := true, laidLooks := .later }
def FnMsgCardSaid : Prop := Claim7.holds Tryd.pinned (.plain (OpenSpec.ofChange fnMsgSpec)) fnMsgCard

/-- THE SECOND FORM's CARD OF 'laws.FnExactMsgEntry'. -/
def fnExactMsgEntryUptoCard : Claim7 := { stood := { row := fnExactMsgEntryUptoRow, standIns := [], harness := (true, "20c3b60bf1d2a6088757e06ec9a29380a38b2079ed67341e79618b408812a74b"), looks := false }, kinds := [], alts := [], laidByText := true, laidKinds := [.data, .data, .data], laidTests := true, laidLooks := .later }
def FnExactMsgEntryUptoCardSaid : Prop := Claim7.holds Tryd.pinned (.plain (OpenSpec.upto fnExactMsgEntrySpec)) fnExactMsgEntryUptoCard

/-- THE SECOND FORM's CARD OF 'laws.FnMsgEntry'. -/
def fnMsgEntryUptoCard : Claim7 := { stood := { row := fnMsgEntryUptoRow, standIns := [], harness := (true, "20c3b60bf1d2a6088757e06ec9a29380a38b2079ed67341e79618b408812a74b"), looks := false }, kinds := [], alts := [], laidByText := true, laidKinds := [.data, .data, .data], laidTests := true, laidLooks := .later }
def FnMsgEntryUptoCardSaid : Prop := Claim7.holds Tryd.pinned (.plain (OpenSpec.upto fnMsgEntrySpec)) fnMsgEntryUptoCard

/-- THE SECOND FORM's CARD OF 'laws.FnMsgKinds'. -/
def fnMsgKindsUptoCard : Claim7 := { stood := { row := fnMsgKindsUptoRow, standIns := [], harness := (true, "20c3b60bf1d2a6088757e06ec9a29380a38b2079ed67341e79618b408812a74b"), looks := false }, kinds := [], alts := [], laidByText := true, laidKinds := [.data, .data, .data], laidTests := true, laidLooks := .later }
def FnMsgKindsUptoCardSaid : Prop := Claim7.holds Tryd.pinned (.plain (OpenSpec.upto fnMsgKindsSpec)) fnMsgKindsUptoCard

/-- THE SECOND FORM's CARD OF 'laws.FnMsgVotes'. -/
def fnMsgVotesUptoCard : Claim7 := { stood := { row := fnMsgVotesUptoRow, standIns := [], harness := (true, "20c3b60bf1d2a6088757e06ec9a29380a38b2079ed67341e79618b408812a74b"), looks := false }, kinds := [], alts := [], laidByText := true, laidKinds := [.data, .data, .data], laidTests := true, laidLooks := .later }
def FnMsgVotesUptoCardSaid : Prop := Claim7.holds Tryd.pinned (.plain (OpenSpec.upto fnMsgVotesSpec)) fnMsgVotesUptoCard

/-- THE SECOND FORM's CARD OF 'laws.FnExactMsgText'. -/
def fnExactMsgTextUptoCard : Claim7 := { stood := { row := fnExactMsgTextUptoRow, standIns := [], harness := (true, "20c3b60bf1d2a6088757e06ec9a29380a38b2079ed67341e79618b408812a74b"), looks := false }, kinds := [], alts := [], laidByText := true, laidKinds := [.data, .data, .data], laidTests := true, laidLooks := .later }
def FnExactMsgTextUptoCardSaid : Prop := Claim7.holds Tryd.pinned (.plain (OpenSpec.upto fnExactMsgTextSpec)) fnExactMsgTextUptoCard

/-- THE SECOND FORM's CARD OF 'laws.FnMsg'. -/
def fnMsgUptoCard : Claim7 := { stood := { row := fnMsgUptoRow, standIns := [], harness := (true, "20c3b60bf1d2a6088757e06ec9a29380a38b2079ed67341e79618b408812a74b"), looks := false }, kinds := [], alts := [], laidByText := true, laidKinds := [.data, .data, .data], laidTests := true, laidLooks := .later }
def FnMsgUptoCardSaid : Prop := Claim7.holds Tryd.pinned (.plain (OpenSpec.upto fnMsgSpec)) fnMsgUptoCard
end Rows
end Go.Proofs.YtedgmfmhilihoaaDoor
