/-
  DERIVED. GIVEN WITH THE SEED: THE CARDS: each row of YtfgbhfphjmmiaaaGreatDoorRows.lean that lists a variable, with what it lists TIED to the program's text (the seventh form; the later family's looks); each row that meets fmt, with fmt's text TOLD by the authors' own Lean function (tested against real Go, not proved from fmt's source: count such statements apart). THE CARD IS WHAT COUNTS. Prove the row's statement (the work); the ties are given (YtfgbhfphjmmiaaaGreatDoorTie.lean); close each card by the builder's one call (the guide's Derived/Test/ToyasCard.lean, 'card_holds'). Laid BY PROGRAM, IN A SANDBOX (cutbox-door.mjs). By AI agents, Wed Nov 11 2026. No macro, syntax, notation, axiom, sorry.
-/
import Derived.Test.YtfgbhfphjmmiaaaGreatDoorRows
import GoSem.ClaimSeven
namespace Go.Proofs.YtfgbhfphjmmiaaaGreatDoor
namespace Rows

/-- THE TIED CARD OF 'croupierlaw21.StepsKnown'. -/
def stepsKnownCard : Claim7 := { stood := { row := stepsKnownRow, standIns := [], harness := (true, "502f4c70369b75b0d817dcaec3831be972de460fbc89e4c07d93a27f2ee98cfe"), looks := true }, kinds := [], alts := [], laidByText := true, laidKinds := [.data, .data, .data, .sentinel, .sentinel], laidTests := true, laidLooks := .later }
def StepsKnownCardSaid : Prop := Claim7.holds Tryz.pinned (.plain (OpenSpec.ofChange stepsKnownSpec)) stepsKnownCard

/-- THE TIED CARD OF 'croupierlaw21.StepsWithins'. -/
def stepsWithinsCard : Claim7 := { stood := { row := stepsWithinsRow, standIns := [], harness := (true, "502f4c70369b75b0d817dcaec3831be972de460fbc89e4c07d93a27f2ee98cfe"), looks := true }, kinds := [], alts := [], laidByText := true, laidKinds := [.data, .data, .data, .sentinel, .sentinel], laidTests := true, laidLooks := .later }
def StepsWithinsCardSaid : Prop := Claim7.holds Tryz.pinned (.plain (OpenSpec.ofChange stepsWithinsSpec)) stepsWithinsCard

/-- THE TIED CARD OF 'croupierlaw21.StepsLeasts'. -/
def stepsLeastsCard : Claim7 := { stood := { row := stepsLeastsRow, standIns := [], harness := (true, "502f4c70369b75b0d817dcaec3831be972de460fbc89e4c07d93a27f2ee98cfe"), looks := true }, kinds := [], alts := [], laidByText := true, laidKinds := [.data, .data, .data, .sentinel, .sentinel], laidTests := true, laidLooks := .later }
def StepsLeastsCardSaid : Prop := Claim7.holds Tryz.pinned (.plain (OpenSpec.ofChange stepsLeastsSpec)) stepsLeastsCard

/-- THE TIED CARD OF 'croupierlaw21.StepsGains'. -/
def stepsGainsCard : Claim7 := { stood := { row := stepsGainsRow, standIns := [], harness := (true, "502f4c70369b75b0d817dcaec3831be972de460fbc89e4c07d93a27f2ee98cfe"), looks := true }, kinds := [], alts := [], laidByText := true, laidKinds := [.data, .data, .data, .sentinel, .sentinel], laidTests := true, laidLooks := .later }
def StepsGainsCardSaid : Prop := Claim7.holds Tryz.pinned (.plain (OpenSpec.ofChange stepsGainsSpec)) stepsGainsCard

/-- THE TIED CARD OF 'croupierlaw21.StepsFollow'. -/
def stepsFollowCard : Claim7 := { stood := { row := stepsFollowRow, standIns := [], harness := (true, "502f4c70369b75b0d817dcaec3831be972de460fbc89e4c07d93a27f2ee98cfe"), looks := true }, kinds := [], alts := [], laidByText := true, laidKinds := [.data, .data, .data, .sentinel, .sentinel], laidTests := true, laidLooks := .later }
def StepsFollowCardSaid : Prop := Claim7.holds Tryz.pinned (.plain (OpenSpec.ofChange stepsFollowSpec)) stepsFollowCard

/-- THE TIED CARD OF 'croupierlaw21.StepsSums'. -/
def stepsSumsCard : Claim7 := { stood := { row := stepsSumsRow, standIns := [], harness := (true, "502f4c70369b75b0d817dcaec3831be972de460fbc89e4c07d93a27f2ee98cfe"), looks := true }, kinds := [], alts := [], laidByText := true, laidKinds := [.data, .data, .data, .sentinel, .sentinel], laidTests := true, laidLooks := .later }
def StepsSumsCardSaid : Prop := Claim7.holds Tryz.pinned (.plain (OpenSpec.ofChange stepsSumsSpec)) stepsSumsCard

/-- THE TIED CARD OF 'croupierlaw21.StepsGrow'. -/
def stepsGrowCard : Claim7 := { stood := { row := stepsGrowRow, standIns := [], harness := (true, "502f4c70369b75b0d817dcaec3831be972de460fbc89e4c07d93a27f2ee98cfe"), looks := true }, kinds := [], alts := [], laidByText := true, laidKinds := [.data, .data, .data, .sentinel, .sentinel], laidTests := true, laidLooks := .later }
def StepsGrowCardSaid : Prop := Claim7.holds Tryz.pinned (.plain (OpenSpec.ofChange stepsGrowSpec)) stepsGrowCard

/-- THE SECOND FORM's CARD OF 'croupierlaw21.StepsKnown'. -/
def stepsKnownUptoCard : Claim7 := { stood := { row := stepsKnownUptoRow, standIns := [], harness := (true, "502f4c70369b75b0d817dcaec3831be972de460fbc89e4c07d93a27f2ee98cfe"), looks := true }, kinds := [], alts := [], laidByText := true, laidKinds := [.data, .data, .data, .sentinel, .sentinel], laidTests := true, laidLooks := .later }
def StepsKnownUptoCardSaid : Prop := Claim7.holds Tryz.pinned (.plain (OpenSpec.upto stepsKnownSpec)) stepsKnownUptoCard

/-- THE SECOND FORM's CARD OF 'croupierlaw21.StepsWithins'. -/
def stepsWithinsUptoCard : Claim7 := { stood := { row := stepsWithinsUptoRow, standIns := [], harness := (true, "502f4c70369b75b0d817dcaec3831be972de460fbc89e4c07d93a27f2ee98cfe"), looks := true }, kinds := [], alts := [], laidByText := true, laidKinds := [.data, .data, .data, .sentinel, .sentinel], laidTests := true, laidLooks := .later }
def StepsWithinsUptoCardSaid : Prop := Claim7.holds Tryz.pinned (.plain (OpenSpec.upto stepsWithinsSpec)) stepsWithinsUptoCard

/-- THE SECOND FORM's CARD OF 'croupierlaw21.StepsLeasts'. -/
def stepsLeastsUptoCard : Claim7 := { stood := { row := stepsLeastsUptoRow, standIns := [], harness := (true, "502f4c70369b75b0d817dcaec3831be972de460fbc89e4c07d93a27f2ee98cfe"), looks := true }, kinds := [], alts := [], laidByText := true, laidKinds := [.data, .data, .data, .sentinel, .sentinel], laidTests := true, laidLooks := .later }
def StepsLeastsUptoCardSaid : Prop := Claim7.holds Tryz.pinned (.plain (OpenSpec.upto stepsLeastsSpec)) stepsLeastsUptoCard

/-- THE SECOND FORM's CARD OF 'croupierlaw21.StepsGains'. -/
def stepsGainsUptoCard : Claim7 := { stood := { row := stepsGainsUptoRow, standIns := [], harness := (true, "502f4c70369b75b0d817dcaec3831be972de460fbc89e4c07d93a27f2ee98cfe"), looks := true }, kinds := [], alts := [], laidByText := true, laidKinds := [.data, .data, .data, .sentinel, .sentinel], laidTests := true, laidLooks := .later }
def StepsGainsUptoCardSaid : Prop := Claim7.holds Tryz.pinned (.plain (OpenSpec.upto stepsGainsSpec)) stepsGainsUptoCard

/-- THE SECOND FORM's CARD OF 'croupierlaw21.StepsFollow'. -/
def stepsFollowUptoCard : Claim7 := { stood := { row := stepsFollowUptoRow, standIns := [], harness := (true, "502f4c70369b75b0d817dcaec3831be972de460fbc89e4c07d93a27f2ee98cfe"), looks := true }, kinds := [], alts := [], laidByText := true, laidKinds := [.data, .data, .data, .sentinel, .sentinel], laidTests := true, laidLooks := .later }
def StepsFollowUptoCardSaid : Prop := Claim7.holds Tryz.pinned (.plain (OpenSpec.upto stepsFollowSpec)) stepsFollowUptoCard

/-- THE SECOND FORM's CARD OF 'croupierlaw21.StepsSums'. -/
def stepsSumsUptoCard : Claim7 := { stood := { row := stepsSumsUptoRow, standIns := [], harness := (true, "502f4c70369b75b0d817dcaec3831be972de460fbc89e4c07d93a27f2ee98cfe"), looks := true }, kinds := [], alts := [], laidByText := true, laidKinds := [.data, .data, .data, .sentinel, .sentinel], laidTests := true, laidLooks := .later }
def StepsSumsUptoCardSaid : Prop := Claim7.holds Tryz.pinned (.plain (OpenSpec.upto stepsSumsSpec)) stepsSumsUptoCard

/-- THE SECOND FORM's CARD OF 'croupierlaw21.StepsGrow'. -/
def stepsGrowUptoCard : Claim7 := { stood := { row := stepsGrowUptoRow, standIns := [], harness := (true, "502f4c70369b75b0d817dcaec3831be972de460fbc89e4c07d93a27f2ee98cfe"), looks := true }, kinds := [], alts := [], laidByText := true, laidKinds := [.data, .data, .data, .sentinel, .sentinel], laidTests := true, laidLooks := .later }
def StepsGrowUptoCardSaid : Prop := Claim7.holds Tryz.pinned (.plain (OpenSpec.upto stepsGrowSpec)) stepsGrowUptoCard
end Rows
end Go.Proofs.YtfgbhfphjmmiaaaGreatDoor
