/-
  DERIVED. GIVEN WITH THE SEED: THE CARDS: each row of YtcjeclddpkinkaaDoorRows.lean that lists a variable, with what it lists TIED to the program's text (the seventh form; the later family's looks); each row that meets fmt, with fmt's text TOLD by the authors' own Lean function (tested against real Go, not proved from fmt's source: count such statements apart). THE CARD IS WHAT COUNTS. Prove the row's statement (the work); the ties are given (YtcjeclddpkinkaaDoorTie.lean); close each card by the builder's one call (the guide's Derived/Test/ToyasCard.lean, 'card_holds'). Laid BY PROGRAM, IN A SANDBOX (cutbox-door.mjs). By AI agents, Wed Nov 11 2026. No macro, syntax, notation, axiom, sorry.
-/
import Derived.Test.YtcjeclddpkinkaaDoorRows
import GoSem.ClaimSeven
namespace Go.Proofs.YtcjeclddpkinkaaDoor
namespace Rows

/-- THE TIED CARD OF 'solventlaw35.BillsReplayMatchesSpec'. -/
def billsReplayMatchesSpecCard : Claim7 := { stood := { row := billsReplayMatchesSpecRow, standIns := [], harness := (true, "b3f345907343170a703516499e5ea42f12764b802fc9c4dec6731c82b6d1c84a"), looks := false }, kinds := [], alts := [], laidByText := true, laidKinds := [.data, .data, .data], laidTests := true, laidLooks := .later }
def BillsReplayMatchesSpecCardSaid : Prop := Claim7.holds Tryd.pinned (.plain (OpenSpec.ofChange billsReplayMatchesSpecSpec)) billsReplayMatchesSpecCard

/-- THE TIED CARD OF 'solventlaw35.BillsDecodeMatchesSpec'. -/
def billsDecodeMatchesSpecCard : Claim7 := { stood := { row := billsDecodeMatchesSpecRow, standIns := [], harness := (true, "b3f345907343170a703516499e5ea42f12764b802fc9c4dec6731c82b6d1c84a"), looks := false }, kinds := [], alts := [], laidByText := true, laidKinds := [.data, .data], laidTests := true, laidLooks := .later }
def BillsDecodeMatchesSpecCardSaid : Prop := Claim7.holds Tryd.pinned (.plain (OpenSpec.ofChange billsDecodeMatchesSpecSpec)) billsDecodeMatchesSpecCard

/-- THE TIED CARD OF 'solventlaw02.DigestSumMatchesSpec'. -/
def digestSumMatchesSpecCard : Claim7 := { stood := { row := digestSumMatchesSpecRow, standIns := [], harness := (true, "b3f345907343170a703516499e5ea42f12764b802fc9c4dec6731c82b6d1c84a"), looks := false }, kinds := [], alts := [], laidByText := true, laidKinds := [.data, .data, .data], laidTests := true, laidLooks := .later }
def DigestSumMatchesSpecCardSaid : Prop := Claim7.holds Tryd.pinned (.plain (OpenSpec.ofChange digestSumMatchesSpecSpec)) digestSumMatchesSpecCard

/-- THE TIED CARD OF 'solventlaw02.DigestOfMatchesSpec'. -/
def digestOfMatchesSpecCard : Claim7 := { stood := { row := digestOfMatchesSpecRow, standIns := [], harness := (true, "b3f345907343170a703516499e5ea42f12764b802fc9c4dec6731c82b6d1c84a"), looks := false }, kinds := [], alts := [], laidByText := true, laidKinds := [.data, .data, .data], laidTests := true, laidLooks := .later }
def DigestOfMatchesSpecCardSaid : Prop := Claim7.holds Tryd.pinned (.plain (OpenSpec.ofChange digestOfMatchesSpecSpec)) digestOfMatchesSpecCard

/-- THE TIED CARD OF 'solventlaw35.BillsAddUp'. -/
def billsAddUpCard : Claim7 := { stood := { row := billsAddUpRow, standIns := [], harness := (true, "b3f345907343170a703516499e5ea42f12764b802fc9c4dec6731c82b6d1c84a"), looks := false }, kinds := [], alts := [], laidByText := true, laidKinds := [.data, .data], laidTests := true, laidLooks := .later }
def BillsAddUpCardSaid : Prop := Claim7.holds Tryd.pinned (.plain (OpenSpec.ofChange billsAddUpSpec)) billsAddUpCard

/-- THE TIED CARD OF 'solventlaw35.BillsCreditsBalance'. -/
def billsCreditsBalanceCard : Claim7 := { stood := { row := billsCreditsBalanceRow, standIns := [], harness := (true, "b3f345907343170a703516499e5ea42f12764b802fc9c4dec6731c82b6d1c84a"), looks := false }, kinds := [], alts := [], laidByText := true, laidKinds := [.data, .data], laidTests := true, laidLooks := .later }
def BillsCreditsBalanceCardSaid : Prop := Claim7.holds Tryd.pinned (.plain (OpenSpec.ofChange billsCreditsBalanceSpec)) billsCreditsBalanceCard

/-- THE TIED CARD OF 'solventlaw02.DigestTreesMatchSpec'. -/
def digestTreesMatchSpecCard : Claim7 := { stood := { row := digestTreesMatchSpecRow, standIns := [], harness := (true, "b3f345907343170a703516499e5ea42f12764b802fc9c4dec6731c82b6d1c84a"), looks := false }, kinds := [], alts := [], laidByText := true, laidKinds := [.data, .data, .data], laidTests := true, laidLooks := .later }
def DigestTreesMatchSpecCardSaid : Prop := Claim7.holds Tryd.pinned (.plain (OpenSpec.ofChange digestTreesMatchSpecSpec)) digestTreesMatchSpecCard

/-- THE TIED CARD OF 'solventlaw02.DigestBinding'. -/
def digestBindingCard : Claim7 := { stood := { row := digestBindingRow, standIns := [], harness := (true, "b3f345907343170a703516499e5ea42f12764b802fc9c4dec6731c82b6d1c84a"), looks := false }, kinds := [], alts := [], laidByText := true, laidKinds := [.data, .data, .data], laidTests := true, laidLooks := .later }
def DigestBindingCardSaid : Prop := Claim7.holds Tryd.pinned (.plain (OpenSpec.ofChange digestBindingSpec)) digestBindingCard

/-- THE TIED CARD OF 'solventlaw02.DigestVerifyMatchesSpec'. -/
def digestVerifyMatchesSpecCard : Claim7 := { stood := { row := digestVerifyMatchesSpecRow, standIns := [], harness := (true, "b3f345907343170a703516499e5ea42f12764b802fc9c4dec6731c82b6d1c84a"), looks := false }, kinds := [], alts := [], laidByText := true, laidKinds := [.data, .data, .data], laidTests := true, laidLooks := .later }
def DigestVerifyMatchesSpecCardSaid : Prop := Claim7.holds Tryd.pinned (.plain (OpenSpec.ofChange digestVerifyMatchesSpecSpec)) digestVerifyMatchesSpecCard

/-- THE TIED CARD OF 'solventlaw35.BillsPlay'. -/
def billsPlayCard : Claim7 := { stood := { row := billsPlayRow, standIns := [], harness := (true, "b3f345907343170a703516499e5ea42f12764b802fc9c4dec6731c82b6d1c84a"), looks := false }, kinds := [], alts := [], laidByText := true, laidKinds := [.data, .data, .data], laidTests := true, laidLooks := .later }
def BillsPlayCardSaid : Prop := Claim7.holds Tryd.pinned (.plain (OpenSpec.ofChange billsPlaySpec)) billsPlayCard

/-- THE TIED CARD OF 'solventlaw02.DigestProofsAccepted'. -/
def digestProofsAcceptedCard : Claim7 := { stood := { row := digestProofsAcceptedRow, standIns := [], harness := (true, "b3f345907343170a703516499e5ea42f12764b802fc9c4dec6731c82b6d1c84a"), looks := false }, kinds := [], alts := [], laidByText := true, laidKinds := [.data, .data], laidTests := true, laidLooks := .later }
def DigestProofsAcceptedCardSaid : Prop := Claim7.holds Tryd.pinned (.plain (OpenSpec.ofChange digestProofsAcceptedSpec)) digestProofsAcceptedCard

/-- THE TIED CARD OF 'solventlaw02.DigestRootAppends'. -/
def digestRootAppendsCard : Claim7 := { stood := { row := digestRootAppendsRow, standIns := [], harness := (true, "b3f345907343170a703516499e5ea42f12764b802fc9c4dec6731c82b6d1c84a"), looks := false }, kinds := [], alts := [], laidByText := true, laidKinds := [.data, .data, .data], laidTests := true, laidLooks := .later }
def DigestRootAppendsCardSaid : Prop := Claim7.holds Tryd.pinned (.plain (OpenSpec.ofChange digestRootAppendsSpec)) digestRootAppendsCard

/-- THE TIED CARD OF 'solventlaw35.BillsReplay'. -/
def billsReplayCard : Claim7 := { stood := { row := billsReplayRow, standIns := [], harness := (true, "b3f345907343170a703516499e5ea42f12764b802fc9c4dec6731c82b6d1c84a"), looks := false }, kinds := [], alts := [], laidByText := true, laidKinds := [.data, .data, .data], laidTests := true, laidLooks := .later }
def BillsReplayCardSaid : Prop := Claim7.holds Tryd.pinned (.plain (OpenSpec.ofChange billsReplaySpec)) billsReplayCard

/-- THE SECOND FORM's CARD OF 'solventlaw35.BillsReplayMatchesSpec'. -/
def billsReplayMatchesSpecUptoCard : Claim7 := { stood := { row := billsReplayMatchesSpecUptoRow, standIns := [], harness := (true, "b3f345907343170a703516499e5ea42f12764b802fc9c4dec6731c82b6d1c84a"), looks := false }, kinds := [], alts := [], laidByText := true, laidKinds := [.data, .data, .data], laidTests := true, laidLooks := .later }
def BillsReplayMatchesSpecUptoCardSaid : Prop := Claim7.holds Tryd.pinned (.plain (OpenSpec.upto billsReplayMatchesSpecSpec)) billsReplayMatchesSpecUptoCard

/-- THE SECOND FORM's CARD OF 'solventlaw35.BillsDecodeMatchesSpec'. -/
def billsDecodeMatchesSpecUptoCard : Claim7 := { stood := { row := billsDecodeMatchesSpecUptoRow, standIns := [], harness := (true, "b3f345907343170a703516499e5ea42f12764b802fc9c4dec6731c82b6d1c84a"), looks := false }, kinds := [], alts := [], laidByText := true, laidKinds := [.data, .data], laidTests := true, laidLooks := .later }
def BillsDecodeMatchesSpecUptoCardSaid : Prop := Claim7.holds Tryd.pinned (.plain (OpenSpec.upto billsDecodeMatchesSpecSpec)) billsDecodeMatchesSpecUptoCard

/-- THE SECOND FORM's CARD OF 'solventlaw02.DigestSumMatchesSpec'. -/
def digestSumMatchesSpecUptoCard : Claim7 := { stood := { row := digestSumMatchesSpecUptoRow, standIns := [], harness := (true, "b3f345907343170a703516499e5ea42f12764b802fc9c4dec6731c82b6d1c84a"), looks := false }, kinds := [], alts := [], laidByText := true, laidKinds := [.data, .data, .data], laidTests := true, laidLooks := .later }
def DigestSumMatchesSpecUptoCardSaid : Prop := Claim7.holds Tryd.pinned (.plain (OpenSpec.upto digestSumMatchesSpecSpec)) digestSumMatchesSpecUptoCard

/-- THE SECOND FORM's CARD OF 'solventlaw02.DigestOfMatchesSpec'. -/
def digestOfMatchesSpecUptoCard : Claim7 := { stood := { row := digestOfMatchesSpecUptoRow, standIns := [], harness := (true, "b3f345907343170a703516499e5ea42f12764b802fc9c4dec6731c82b6d1c84a"), looks := false }, kinds := [], alts := [], laidByText := true, laidKinds := [.data, .data, .data], laidTests := true, laidLooks := .later }
def DigestOfMatchesSpecUptoCardSaid : Prop := Claim7.holds Tryd.pinned (.plain (OpenSpec.upto digestOfMatchesSpecSpec)) digestOfMatchesSpecUptoCard

/-- THE SECOND FORM's CARD OF 'solventlaw35.BillsAddUp'. -/
def billsAddUpUptoCard : Claim7 := { stood := { row := billsAddUpUptoRow, standIns := [], harness := (true, "b3f345907343170a703516499e5ea42f12764b802fc9c4dec6731c82b6d1c84a"), looks := false }, kinds := [], alts := [], laidByText := true, laidKinds := [.data, .data], laidTests := true, laidLooks := .later }
def BillsAddUpUptoCardSaid : Prop := Claim7.holds Tryd.pinned (.plain (OpenSpec.upto billsAddUpSpec)) billsAddUpUptoCard

/-- THE SECOND FORM's CARD OF 'solventlaw35.BillsCreditsBalance'. -/
def billsCreditsBalanceUptoCard : Claim7 := { stood := { row := billsCreditsBalanceUptoRow, standIns := [], harness := (true, "b3f345907343170a703516499e5ea42f12764b802fc9c4dec6731c82b6d1c84a"), looks := false }, kinds := [], alts := [], laidByText := true, laidKinds := [.data, .data], laidTests := true, laidLooks := .later }
def BillsCreditsBalanceUptoCardSaid : Prop := Claim7.holds Tryd.pinned (.plain (OpenSpec.upto billsCreditsBalanceSpec)) billsCreditsBalanceUptoCard

/-- THE SECOND FORM's CARD OF 'solventlaw02.DigestTreesMatchSpec'. -/
def digestTreesMatchSpecUptoCard : Claim7 := { stood := { row := digestTreesMatchSpecUptoRow, standIns := [], harness := (true, "b3f345907343170a703516499e5ea42f12764b802fc9c4dec6731c82b6d1c84a"), looks := false }, kinds := [], alts := [], laidByText := true, laidKinds := [.data, .data, .data], laidTests := true, laidLooks := .later }
def DigestTreesMatchSpecUptoCardSaid : Prop := Claim7.holds Tryd.pinned (.plain (OpenSpec.upto digestTreesMatchSpecSpec)) digestTreesMatchSpecUptoCard

/-- THE SECOND FORM's CARD OF 'solventlaw02.DigestBinding'. -/
def digestBindingUptoCard : Claim7 := { stood := { row := digestBindingUptoRow, standIns := [], harness := (true, "b3f345907343170a703516499e5ea42f12764b802fc9c4dec6731c82b6d1c84a"), looks := false }, kinds := [], alts := [], laidByText := true, laidKinds := [.data, .data, .data], laidTests := true, laidLooks := .later }
def DigestBindingUptoCardSaid : Prop := Claim7.holds Tryd.pinned (.plain (OpenSpec.upto digestBindingSpec)) digestBindingUptoCard

/-- THE SECOND FORM's CARD OF 'solventlaw02.DigestVerifyMatchesSpec'. -/
def digestVerifyMatchesSpecUptoCard : Claim7 := { stood := { row := digestVerifyMatchesSpecUptoRow, standIns := [], harness := (true, "b3f345907343170a703516499e5ea42f12764b802fc9c4dec6731c82b6d1c84a"), looks := false }, kinds := [], alts := [], laidByText := true, laidKinds := [.data, .data, .data], laidTests := true, laidLooks := .later }
def DigestVerifyMatchesSpecUptoCardSaid : Prop := Claim7.holds Tryd.pinned (.plain (OpenSpec.upto digestVerifyMatchesSpecSpec)) digestVerifyMatchesSpecUptoCard

/-- THE SECOND FORM's CARD OF 'solventlaw35.BillsPlay'. -/
def billsPlayUptoCard : Claim7 := { stood := { row := billsPlayUptoRow, standIns := [], harness := (true, "b3f345907343170a703516499e5ea42f12764b802fc9c4dec6731c82b6d1c84a"), looks := false }, kinds := [], alts := [], laidByText := true, laidKinds := [.data, .data, .data], laidTests := true, laidLooks := .later }
def BillsPlayUptoCardSaid : Prop := Claim7.holds Tryd.pinned (.plain (OpenSpec.upto billsPlaySpec)) billsPlayUptoCard

/-- THE SECOND FORM's CARD OF 'solventlaw02.DigestProofsAccepted'. -/
def digestProofsAcceptedUptoCard : Claim7 := { stood := { row := digestProofsAcceptedUptoRow, standIns := [], harness := (true, "b3f345907343170a703516499e5ea42f12764b802fc9c4dec6731c82b6d1c84a"), looks := false }, kinds := [], alts := [], laidByText := true, laidKinds := [.data, .data], laidTests := true, laidLooks := .later }
def DigestProofsAcceptedUptoCardSaid : Prop := Claim7.holds Tryd.pinned (.plain (OpenSpec.upto digestProofsAcceptedSpec)) digestProofsAcceptedUptoCard

/-- THE SECOND FORM's CARD OF 'solventlaw02.DigestRootAppends'. -/
def digestRootAppendsUptoCard : Claim7 := { stood := { row := digestRootAppendsUptoRow, standIns := [], harness := (true, "b3f345907343170a703516499e5ea42f12764b802fc9c4dec6731c82b6d1c84a"), looks := false }, kinds := [], alts := [], laidByText := true, laidKinds := [.data, .data, .data], laidTests := true, laidLooks := .later }
def DigestRootAppendsUptoCardSaid : Prop := Claim7.holds Tryd.pinned (.plain (OpenSpec.upto digestRootAppendsSpec)) digestRootAppendsUptoCard

/-- THE SECOND FORM's CARD OF 'solventlaw35.BillsReplay'. -/
def billsReplayUptoCard : Claim7 := { stood := { row := billsReplayUptoRow, standIns := [], harness := (true, "b3f345907343170a703516499e5ea42f12764b802fc9c4dec6731c82b6d1c84a"), looks := false }, kinds := [], alts := [], laidByText := true, laidKinds := [.data, .data, .data], laidTests := true, laidLooks := .later }
def BillsReplayUptoCardSaid : Prop := Claim7.holds Tryd.pinned (.plain (OpenSpec.upto billsReplaySpec)) billsReplayUptoCard
end Rows
end Go.Proofs.YtcjeclddpkinkaaDoor
