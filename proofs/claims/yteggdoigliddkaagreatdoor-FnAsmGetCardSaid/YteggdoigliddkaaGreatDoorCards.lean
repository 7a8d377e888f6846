/-
  DERIVED. GIVEN WITH THE SEED: THE CARDS: each row of YteggdoigliddkaaGreatDoorRows.lean that lists a variable, with what it lists TIED to the program's text (the seventh form; the later family's looks); each row that meets fmt, with fmt's text TOLD by the authors' own Lean function (tested against real Go, not proved from fmt's source: count such statements apart). THE CARD IS WHAT COUNTS. Prove the row's statement (the work); the ties are given (YteggdoigliddkaaGreatDoorTie.lean); close each card by the builder's one call (the guide's Derived/Test/ToyasCard.lean, 'card_holds'). Laid BY PROGRAM, IN A SANDBOX (cutbox-door.mjs). By AI agents, Wed Nov 11 2026. No macro, syntax, notation, axiom, sorry.
-/
import Derived.Test.YteggdoigliddkaaGreatDoorRows
import GoSem.ClaimSeven
namespace Go.Proofs.YteggdoigliddkaaGreatDoor
namespace Rows

/-- THE TIED CARD OF 'laws.FnExactAsmGet'. -/
def fnExactAsmGetCard : Claim7 := { stood := { row := fnExactAsmGetRow, standIns := [], harness := (true, "21ec60a43be9c25caa2582c36e4458534a0e9d48f81cfc1bf8722147e4875e93"), looks := true }, kinds := [], alts := [], laidByText := true, laidKinds := [.data, .data, .data, .data, .sentinel, .sentinel, .pinned], laidTests := true, laidLooks := .later }
def FnExactAsmGetCardSaid : Prop := Claim7.holds Tryz.pinned (.plain (OpenSpec.ofChange fnExactAsmGetSpec)) fnExactAsmGetCard

/-- THE TIED CARD OF 'laws.FnAsmPut'. -/
def fnAsmPutCard : Claim7 := { stood := { row := fnAsmPutRow, standIns := [], harness := (true, "21ec60a43be9c25caa2582c36e4458534a0e9d48f81cfc1bf8722147e4875e93"), looks := true }, kinds := [], alts := [], laidByText := true, laidKinds := [.data, .data, .data, .data, .sentinel, .sentinel, .pinned], laidTests := true, laidLooks := .later }
def FnAsmPutCardSaid : Prop := Claim7.holds Tryz.pinned (.plain (OpenSpec.ofChange fnAsmPutSpec)) fnAsmPutCard

/-- THE TIED CARD OF 'laws.FnAsmGet'. -/
def fnAsmGetCard : Claim7 := { stood := { row := fnAsmGetRow, standIns := [], harness := (true, "21ec60a43be9c25caa2582c36e4458534a0e9d48f81cfc1bf8722147e4875e93"), looks := true }, kinds := [], alts := [], laidByText := true, laidKinds := [.data, .data, .data, .data, .sentinel, .sentinel, .pinned], laidTests := true, laidLooks := .later }
def FnAsmGetCardSaid : Prop := Claim7.holds Tryz.pinned (.plain (OpenSpec.ofChange fnAsmGetSpec)) fnAsmGetCard

/-- THE SECOND FORM's CARD OF 'laws.FnExactAsmGet'. -/
def fnExactAsmGetUptoCard : Claim7 := { stood := { row := fnExactAsmGetUptoRow, standIns := [], harness := (true, "21ec60a43be9c25caa2582c36e4458534a0e9d48f81cfc1bf8722147e4875e93"), looks := true }, kinds := [], alts := [], laidByText := true, laidKinds := [.data, .data, .data, .data, .sentinel, .sentinel, .pinned], laidTests := true, laidLooks := .later }
def FnExactAsmGetUptoCardSaid : Prop := Claim7.holds Tryz.pinned (.plain (OpenSpec.upto fnExactAsmGetSpec)) fnExactAsmGetUptoCard

/-- THE SECOND FORM's CARD OF 'laws.FnAsmPut'. -/
def fnAsmPutUptoCard : Claim7 := { stood := { row := fnAsmPutUptoRow, standIns := [], harness := (true, "21ec60a43be9c25caa2582c36e4458534a0e9d48f81cfc1bf8722147e4875e93"), looks := true }, kinds := [], alts := [], laidByText := true, laidKinds := [.data, .data, .data, .data, .sentinel, .sentinel, .pinned], laidTests := true, laidLooks := .later }
def FnAsmPutUptoCardSaid : Prop := Claim7.holds Tryz.pinned (.plain (OpenSpec.upto fnAsmPutSpec)) fnAsmPutUptoCard

/-- THE SECOND FORM's CARD OF 'laws.FnAsmGet'. -/
def fnAsmGetUptoCard : Claim7 := { stood := { row := fnAsmGetUptoRow, standIns := [], harness := (true, "21ec60a43be9c25caa2582c36e4458534a0e9d48f81cfc1bf8722147e4875e93"), looks := true }, kinds := [], alts := [], laidByText := true, laidKinds := [.data, .data, .data, .data, .sentinel, .sentinel, .pinned], laidTests := true, laidLooks := .later }
def FnAsmGetUptoCardSaid : Prop := Claim7.holds Tryz.pinned (.plain (OpenSpec.upto fnAsmGetSpec)) fnAsmGetUptoCard
end Rows
end Go.Proofs.YteggdoigliddkaaGreatDoor
