/-
  DERIVED. GIVEN WITH THE SEED: THE CARDS: each row of YtilfjfpemjfalaaDoorRows.lean that lists a variable, with what it lists TIED to the program's text (the seventh form; the later family's looks); each row that meets fmt, with fmt's text TOLD by the authors' own Lean function (tested against real Go, not proved from fmt's source: count such statements apart). THE CARD IS WHAT COUNTS. Prove the row's statement (the work); the ties are given (YtilfjfpemjfalaaDoorTie.lean); close each card by the builder's one call (the guide's Derived/Test/ToyasCard.lean, 'card_holds'). Laid BY PROGRAM, IN A SANDBOX (cutbox-door.mjs). By AI agents, Wed Nov 11 2026. No macro, syntax, notation, axiom, sorry.
-/
import Derived.Test.YtilfjfpemjfalaaDoorRows
import GoSem.ClaimSeven
namespace Go.Proofs.YtilfjfpemjfalaaDoor
namespace Rows

/-- THE TIED CARD OF 'croupierlaw31.CodeCompiles'. -/
def codeCompilesCard : Claim7 := { stood := { row := codeCompilesRow, standIns := [], harness := (true, "e3e9303c59680a8ae5ad61c06e78f4c92347388a7ca248ceb90172cbdaf66d55"), looks := true }, kinds := [], alts := [], laidByText := true, laidKinds := [.data, .data, .data, .data, .sentinel, .sentinel, .widerDeep, .pinned], laidTests := true, laidLooks := .later }
def CodeCompilesCardSaid : Prop := Claim7.holds Tryd.pinned (.plain (OpenSpec.ofChange codeCompilesSpec)) codeCompilesCard

/-- THE TIED CARD OF 'croupierlaw31.CodeBack'. -/
def codeBackCard : Claim7 := { stood := { row := codeBackRow, standIns := [], harness := (true, "e3e9303c59680a8ae5ad61c06e78f4c92347388a7ca248ceb90172cbdaf66d55"), looks := true }, kinds := [], alts := [], laidByText := true, laidKinds := [.data, .data, .data, .data, .sentinel, .sentinel, .widerDeep, .pinned], laidTests := true, laidLooks := .later }
def CodeBackCardSaid : Prop := Claim7.holds Tryd.pinned (.plain (OpenSpec.ofChange codeBackSpec)) codeBackCard

/-- THE TIED CARD OF 'croupierlaw31.CodeWay'. -/
def codeWayCard : Claim7 := { stood := { row := codeWayRow, standIns := [], harness := (true, "e3e9303c59680a8ae5ad61c06e78f4c92347388a7ca248ceb90172cbdaf66d55"), looks := true }, kinds := [], alts := [], laidByText := true, laidKinds := [.data, .data, .data, .data, .sentinel, .sentinel, .widerDeep, .pinned], laidTests := true, laidLooks := .later }
def CodeWayCardSaid : Prop := Claim7.holds Tryd.pinned (.plain (OpenSpec.ofChange codeWaySpec)) codeWayCard

/-- THE TIED CARD OF 'croupierlaw31.CodeTrims'. -/
def codeTrimsCard : Claim7 := { stood := { row := codeTrimsRow, standIns := [], harness := (true, "e3e9303c59680a8ae5ad61c06e78f4c92347388a7ca248ceb90172cbdaf66d55"), looks := true }, kinds := [], alts := [], laidByText := true, laidKinds := [.data, .data, .data, .data, .sentinel, .sentinel, .widerDeep, .pinned], laidTests := true, laidLooks := .later }
def CodeTrimsCardSaid : Prop := Claim7.holds Tryd.pinned (.plain (OpenSpec.ofChange codeTrimsSpec)) codeTrimsCard

/-- THE SECOND FORM's CARD OF 'croupierlaw31.CodeCompiles'. -/
def codeCompilesUptoCard : Claim7 := { stood := { row := codeCompilesUptoRow, standIns := [], harness := (true, "e3e9303c59680a8ae5ad61c06e78f4c92347388a7ca248ceb90172cbdaf66d55"), looks := true }, kinds := [], alts := [], laidByText := true, laidKinds := [.data, .data, .data, .data, .sentinel, .sentinel, .widerDeep, .pinned], laidTests := true, laidLooks := .later }
def CodeCompilesUptoCardSaid : Prop := Claim7.holds Tryd.pinned (.plain (OpenSpec.upto codeCompilesSpec)) codeCompilesUptoCard

/-- THE SECOND FORM's CARD OF 'croupierlaw31.CodeBack'. -/
def codeBackUptoCard : Claim7 := { stood := { row := codeBackUptoRow, standIns := [], harness := (true, "e3e9303c59680a8ae5ad61c06e78f4c92347388a7ca248ceb90172cbdaf66d55"), looks := true }, kinds := [], alts := [], laidByText := true, laidKinds := [.data, .data, .data, .data, .sentinel, .sentinel, .widerDeep, .pinned], laidTests := true, laidLooks := .later }
def CodeBackUptoCardSaid : Prop := Claim7.holds Tryd.pinned (.plain (OpenSpec.upto codeBackSpec)) codeBackUptoCard

/-- THE SECOND FORM's CARD OF 'croupierlaw31.CodeWay'. -/
def codeWayUptoCard : Claim7 := { stood := { row := codeWayUptoRow, standIns := [], harness := (true, "e3e9303c59680a8ae5ad61c06e78f4c92347388a7ca248ceb90172cbdaf66d55"), looks := true }, kinds := [], alts := [], laidByText := true, laidKinds := [.data, .data, .data, .data, .sentinel, .sentinel, .widerDeep, .pinned], laidTests := true, laidLooks := .later }
def CodeWayUptoCardSaid : Prop := Claim7.holds Tryd.pinned (.plain (OpenSpec.upto codeWaySpec)) codeWayUptoCard

/-- THE SECOND FORM's CARD OF 'croupierlaw31.CodeTrims'. -/
def codeTrimsUptoCard : Claim7 := { stood := { row := codeTrimsUptoRow, standIns := [], harness := (true, "e3e9303c59680a8ae5ad61c06e78f4c92347388a7ca248ceb90172cbdaf66d55"), looks := true }, kinds := [], alts := [], laidByText := true, laidKinds := [.data, .data, .data, .data, .sentinel, .sentinel, .widerDeep, .pinned], laidTests := true, laidLooks := .later }
def CodeTrimsUptoCardSaid : Prop := Claim7.holds Tryd.pinned (.plain (OpenSpec.upto codeTrimsSpec)) codeTrimsUptoCard
end Rows
end Go.Proofs.YtilfjfpemjfalaaDoor
