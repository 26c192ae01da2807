/-
  DERIVED. GIVEN WITH THE SEED: THE CARDS: each row of YtdlnalepibeibaaGreatDoorRows.lean that lists a variable, with what it lists TIED to the program's text (the seventh form; the later family's looks); each row that meets fmt, with fmt's text TOLD by the authors' own Lean function (tested against real Go, not proved from fmt's source: count such statements apart). THE CARD IS WHAT COUNTS. Prove the row's statement (the work); the ties are given (YtdlnalepibeibaaGreatDoorTie.lean); close each card by the builder's one call (the guide's Derived/Test/ToyasCard.lean, 'card_holds'). Laid BY PROGRAM, IN A SANDBOX (cutbox-door.mjs). By AI agents, Wed Nov 11 2026. No macro, syntax, notation, axiom, sorry.
-/
import Derived.Test.YtdlnalepibeibaaGreatDoorRows
import GoSem.ClaimSeven
namespace Go.Proofs.YtdlnalepibeibaaGreatDoor
namespace Rows

/-- THE TIED CARD OF 'croupierlaw22.SandwichKnown'. -/
def sandwichKnownCard : Claim7 := { stood := { row := sandwichKnownRow, standIns := [], harness := (true, "576ca53fc8fd8aa78b63b083a81e19658d4bc94738a8f63b5d4a81637d3c6a55"), looks := true }, kinds := [], alts := [], laidByText := true, laidKinds := [.data, .data, .data, .sentinel, .sentinel], laidTests := true, laidLooks := .later }
def SandwichKnownCardSaid : Prop := Claim7.holds Tryz.pinned (.plain (OpenSpec.ofChange sandwichKnownSpec)) sandwichKnownCard

/-- THE TIED CARD OF 'croupierlaw22.SandwichBounds'. -/
def sandwichBoundsCard : Claim7 := { stood := { row := sandwichBoundsRow, standIns := [], harness := (true, "576ca53fc8fd8aa78b63b083a81e19658d4bc94738a8f63b5d4a81637d3c6a55"), looks := true }, kinds := [], alts := [], laidByText := true, laidKinds := [.data, .data, .data, .sentinel, .sentinel], laidTests := true, laidLooks := .later }
def SandwichBoundsCardSaid : Prop := Claim7.holds Tryz.pinned (.plain (OpenSpec.ofChange sandwichBoundsSpec)) sandwichBoundsCard

/-- THE TIED CARD OF 'croupierlaw22.SandwichNarrows'. -/
def sandwichNarrowsCard : Claim7 := { stood := { row := sandwichNarrowsRow, standIns := [], harness := (true, "576ca53fc8fd8aa78b63b083a81e19658d4bc94738a8f63b5d4a81637d3c6a55"), looks := true }, kinds := [], alts := [], laidByText := true, laidKinds := [.data, .data, .data, .sentinel, .sentinel], laidTests := true, laidLooks := .later }
def SandwichNarrowsCardSaid : Prop := Claim7.holds Tryz.pinned (.plain (OpenSpec.ofChange sandwichNarrowsSpec)) sandwichNarrowsCard

/-- THE TIED CARD OF 'croupierlaw22.SandwichCloses'. -/
def sandwichClosesCard : Claim7 := { stood := { row := sandwichClosesRow, standIns := [], harness := (true, "576ca53fc8fd8aa78b63b083a81e19658d4bc94738a8f63b5d4a81637d3c6a55"), looks := true }, kinds := [], alts := [], laidByText := true, laidKinds := [.data, .data, .data, .sentinel, .sentinel], laidTests := true, laidLooks := .later }
def SandwichClosesCardSaid : Prop := Claim7.holds Tryz.pinned (.plain (OpenSpec.ofChange sandwichClosesSpec)) sandwichClosesCard

/-- THE TIED CARD OF 'croupierlaw22.SandwichFirst'. -/
def sandwichFirstCard : Claim7 := { stood := { row := sandwichFirstRow, standIns := [], harness := (true, "576ca53fc8fd8aa78b63b083a81e19658d4bc94738a8f63b5d4a81637d3c6a55"), looks := true }, kinds := [], alts := [], laidByText := true, laidKinds := [.data, .data, .data, .sentinel, .sentinel], laidTests := true, laidLooks := .later }
def SandwichFirstCardSaid : Prop := Claim7.holds Tryz.pinned (.plain (OpenSpec.ofChange sandwichFirstSpec)) sandwichFirstCard

/-- THE TIED CARD OF 'croupierlaw22.SandwichSteps'. -/
def sandwichStepsCard : Claim7 := { stood := { row := sandwichStepsRow, standIns := [], harness := (true, "576ca53fc8fd8aa78b63b083a81e19658d4bc94738a8f63b5d4a81637d3c6a55"), looks := true }, kinds := [], alts := [], laidByText := true, laidKinds := [.data, .data, .data, .sentinel, .sentinel], laidTests := true, laidLooks := .later }
def SandwichStepsCardSaid : Prop := Claim7.holds Tryz.pinned (.plain (OpenSpec.ofChange sandwichStepsSpec)) sandwichStepsCard

/-- THE TIED CARD OF 'croupierlaw22.SandwichSound'. -/
def sandwichSoundCard : Claim7 := { stood := { row := sandwichSoundRow, standIns := [], harness := (true, "576ca53fc8fd8aa78b63b083a81e19658d4bc94738a8f63b5d4a81637d3c6a55"), looks := true }, kinds := [], alts := [], laidByText := true, laidKinds := [.data, .data, .data, .sentinel, .sentinel], laidTests := true, laidLooks := .later }
def SandwichSoundCardSaid : Prop := Claim7.holds Tryz.pinned (.plain (OpenSpec.ofChange sandwichSoundSpec)) sandwichSoundCard

/-- THE TIED CARD OF 'croupierlaw22.SandwichExact'. -/
def sandwichExactCard : Claim7 := { stood := { row := sandwichExactRow, standIns := [], harness := (true, "576ca53fc8fd8aa78b63b083a81e19658d4bc94738a8f63b5d4a81637d3c6a55"), looks := true }, kinds := [], alts := [], laidByText := true, laidKinds := [.data, .data, .data, .sentinel, .sentinel], laidTests := true, laidLooks := .later }
def SandwichExactCardSaid : Prop := Claim7.holds Tryz.pinned (.plain (OpenSpec.ofChange sandwichExactSpec)) sandwichExactCard

/-- THE SECOND FORM's CARD OF 'croupierlaw22.SandwichKnown'. -/
def sandwichKnownUptoCard : Claim7 := { stood := { row := sandwichKnownUptoRow, standIns := [], harness := (true, "576ca53fc8fd8aa78b63b083a81e19658d4bc94738a8f63b5d4a81637d3c6a55"), looks := true }, kinds := [], alts := [], laidByText := true, laidKinds := [.data, .data, .data, .sentinel, .sentinel], laidTests := true, laidLooks := .later }
def SandwichKnownUptoCardSaid : Prop := Claim7.holds Tryz.pinned (.plain (OpenSpec.upto sandwichKnownSpec)) sandwichKnownUptoCard

/-- THE SECOND FORM's CARD OF 'croupierlaw22.SandwichBounds'. -/
def sandwichBoundsUptoCard : Claim7 := { stood := { row := sandwichBoundsUptoRow, standIns := [], harness := (true, "576ca53fc8fd8aa78b63b083a81e19658d4bc94738a8f63b5d4a81637d3c6a55"), looks := true }, kinds := [], alts := [], laidByText := true, laidKinds := [.data, .data, .data, .sentinel, .sentinel], laidTests := true, laidLooks := .later }
def SandwichBoundsUptoCardSaid : Prop := Claim7.holds Tryz.pinned (.plain (OpenSpec.upto sandwichBoundsSpec)) sandwichBoundsUptoCard

/-- THE SECOND FORM's CARD OF 'croupierlaw22.SandwichNarrows'. -/
def sandwichNarrowsUptoCard : Claim7 := { stood := { row := sandwichNarrowsUptoRow, standIns := [], harness := (true, "576ca53fc8fd8aa78b63b083a81e19658d4bc94738a8f63b5d4a81637d3c6a55"), looks := true }, kinds := [], alts := [], laidByText := true, laidKinds := [.data, .data, .data, .sentinel, .sentinel], laidTests := true, laidLooks := .later }
def SandwichNarrowsUptoCardSaid : Prop := Claim7.holds Tryz.pinned (.plain (OpenSpec.upto sandwichNarrowsSpec)) sandwichNarrowsUptoCard

/-- THE SECOND FORM's CARD OF 'croupierlaw22.SandwichCloses'. -/
def sandwichClosesUptoCard : Claim7 := { stood := { row := sandwichClosesUptoRow, standIns := [], harness := (true, "576ca53fc8fd8aa78b63b083a81e19658d4bc94738a8f63b5d4a81637d3c6a55"), looks := true }, kinds := [], alts := [], laidByText := true, laidKinds := [.data, .data, .data, .sentinel, .sentinel], laidTests := true, laidLooks := .later }
def SandwichClosesUptoCardSaid : Prop := Claim7.holds Tryz.pinned (.plain (OpenSpec.upto sandwichClosesSpec)) sandwichClosesUptoCard

/-- THE SECOND FORM's CARD OF 'croupierlaw22.SandwichFirst'. -/
def sandwichFirstUptoCard : Claim7 := { stood := { row := sandwichFirstUptoRow, standIns := [], harness := (true, "576ca53fc8fd8aa78b63b083a81e19658d4bc94738a8f63b5d4a81637d3c6a55"), looks := true }, kinds := [], alts := [], laidByText := true, laidKinds := [.data, .data, .data, .sentinel, .sentinel], laidTests := true, laidLooks := .later }
def SandwichFirstUptoCardSaid : Prop := Claim7.holds Tryz.pinned (.plain (OpenSpec.upto sandwichFirstSpec)) sandwichFirstUptoCard

/-- THE SECOND FORM's CARD OF 'croupierlaw22.SandwichSteps'. -/
def sandwichStepsUptoCard : Claim7 := { stood := { row := sandwichStepsUptoRow, standIns := [], harness := (true, "576ca53fc8fd8aa78b63b083a81e19658d4bc94738a8f63b5d4a81637d3c6a55"), looks := true }, kinds := [], alts := [], laidByText := true, laidKinds := [.data, .data, .data, .sentinel, .sentinel], laidTests := true, laidLooks := .later }
def SandwichStepsUptoCardSaid : Prop := Claim7.holds Tryz.pinned (.plain (OpenSpec.upto sandwichStepsSpec)) sandwichStepsUptoCard

/-- THE SECOND FORM's CARD OF 'croupierlaw22.SandwichSound'. -/
def sandwichSoundUptoCard : Claim7 := { stood := { row := sandwichSoundUptoRow, standIns := [], harness := (true, "576ca53fc8fd8aa78b63b083a81e19658d4bc94738a8f63b5d4a81637d3c6a55"), looks := true }, kinds := [], alts := [], laidByText := true, laidKinds := [.data, .data, .data, .sentinel, .sentinel], laidTests := true, laidLooks := .later }
def SandwichSoundUptoCardSaid : Prop := Claim7.holds Tryz.pinned (.plain (OpenSpec.upto sandwichSoundSpec)) sandwichSoundUptoCard

/-- THE SECOND FORM's CARD OF 'croupierlaw22.SandwichExact'. -/
def sandwichExactUptoCard : Claim7 := { stood := { row := sandwichExactUptoRow, standIns := [], harness := (true, "576ca53fc8fd8aa78b63b083a81e19658d4bc94738a8f63b5d4a81637d3c6a55"), looks := true }, kinds := [], alts := [], laidByText := true, laidKinds := [.data, .data, .data, .sentinel, .sentinel], laidTests := true, laidLooks := .later }
def SandwichExactUptoCardSaid : Prop := Claim7.holds Tryz.pinned (.plain (OpenSpec.upto sandwichExactSpec)) sandwichExactUptoCard
end Rows
end Go.Proofs.YtdlnalepibeibaaGreatDoor
