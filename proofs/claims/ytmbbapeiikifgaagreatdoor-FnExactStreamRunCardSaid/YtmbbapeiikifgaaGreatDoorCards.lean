/-
  DERIVED. GIVEN WITH THE SEED: THE CARDS: each row of YtmbbapeiikifgaaGreatDoorRows.lean that lists a variable, with what it lists TIED to the program's text (the seventh form; the later family's looks); each row that meets fmt, with fmt's text TOLD by the authors' own Lean function (tested against real Go, not proved from fmt's source: count such statements apart). THE CARD IS WHAT COUNTS. Prove the row's statement (the work); the ties are given (YtmbbapeiikifgaaGreatDoorTie.lean); close each card by the builder's one call (the guide's Derived/Test/ToyasCard.lean, 'card_holds'). Laid BY PROGRAM, IN A SANDBOX (cutbox-door.mjs). By AI agents, Wed Nov 11 2026. No macro, syntax, notation, axiom, sorry.
-/
import Derived.Test.YtmbbapeiikifgaaGreatDoorRows
import GoSem.ClaimSeven
namespace Go.Proofs.YtmbbapeiikifgaaGreatDoor
namespace Rows

/-- THE TIED CARD OF 'laws.FnActions'. -/
def fnActionsCard : Claim7 := { stood := { row := fnActionsRow, standIns := [], harness := (true, "cfe3bfaa867e34b71028cf195c55d425e83930a861282b422199f50d01fc7a64"), looks := true }, kinds := [], alts := [], laidByText := true, laidKinds := [.data, .data, .data, .sentinel, .sentinel], laidTests := true, laidLooks := .later }
def FnActionsCardSaid : Prop := Claim7.holds Tryz.pinned (.plain (OpenSpec.ofChange fnActionsSpec)) fnActionsCard

/-- THE TIED CARD OF 'laws.FnExactStreamDo'. -/
def fnExactStreamDoCard : Claim7 := { stood := { row := fnExactStreamDoRow, standIns := [], harness := (true, "cfe3bfaa867e34b71028cf195c55d425e83930a861282b422199f50d01fc7a64"), looks := true }, kinds := [], alts := [], laidByText := true, laidKinds := [.data, .data, .data, .sentinel, .sentinel], laidTests := true, laidLooks := .later }
def FnExactStreamDoCardSaid : Prop := Claim7.holds Tryz.pinned (.plain (OpenSpec.ofChange fnExactStreamDoSpec)) fnExactStreamDoCard

/-- THE TIED CARD OF 'laws.FnExactStreamRun'. -/
def fnExactStreamRunCard : Claim7 := { stood := { row := fnExactStreamRunRow, standIns := [], harness := (true, "cfe3bfaa867e34b71028cf195c55d425e83930a861282b422199f50d01fc7a64"), looks := true }, kinds := [], alts := [], laidByText := true, laidKinds := [.data, .data, .data, .sentinel, .sentinel], laidTests := true, laidLooks := .later }
def FnExactStreamRunCardSaid : Prop := Claim7.holds Tryz.pinned (.plain (OpenSpec.ofChange fnExactStreamRunSpec)) fnExactStreamRunCard

/-- THE SECOND FORM's CARD OF 'laws.FnActions'. -/
def fnActionsUptoCard : Claim7 := { stood := { row := fnActionsUptoRow, standIns := [], harness := (true, "cfe3bfaa867e34b71028cf195c55d425e83930a861282b422199f50d01fc7a64"), looks := true }, kinds := [], alts := [], laidByText := true, laidKinds := [.data, .data, .data, .sentinel, .sentinel], laidTests := true, laidLooks := .later }
def FnActionsUptoCardSaid : Prop := Claim7.holds Tryz.pinned (.plain (OpenSpec.upto fnActionsSpec)) fnActionsUptoCard

/-- THE SECOND FORM's CARD OF 'laws.FnExactStreamDo'. -/
def fnExactStreamDoUptoCard : Claim7 := { stood := { row := fnExactStreamDoUptoRow, standIns := [], harness := (true, "cfe3bfaa867e34b71028cf195c55d425e83930a861282b422199f50d01fc7a64"), looks := true }, kinds := [], alts := [], laidByText := true, laidKinds := [.data, .data, .data, .sentinel, .sentinel], laidTests := true, laidLooks := .later }
def FnExactStreamDoUptoCardSaid : Prop := Claim7.holds Tryz.pinned (.plain (OpenSpec.upto fnExactStreamDoSpec)) fnExactStreamDoUptoCard

/-- THE SECOND FORM's CARD OF 'laws.FnExactStreamRun'. -/
def fnExactStreamRunUptoCard : Claim7 := { stood := { row := fnExactStreamRunUptoRow, standIns := [], harness := (true, "cfe3bfaa867e34b71028cf195c55d425e83930a861282b422199f50d01fc7a64"), looks := true }, kinds := [], alts := [], laidByText := true, laidKinds := [.data, .data, .data, .sentinel, .sentinel], laidTests := true, laidLooks := .later }
def FnExactStreamRunUptoCardSaid : Prop := Claim7.holds Tryz.pinned (.plain (OpenSpec.upto fnExactStreamRunSpec)) fnExactStreamRunUptoCard
end Rows
end Go.Proofs.YtmbbapeiikifgaaGreatDoor
