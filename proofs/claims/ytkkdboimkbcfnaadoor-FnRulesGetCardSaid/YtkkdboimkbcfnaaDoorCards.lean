/-
  DERIVED. GIVEN WITH THE SEED: THE CARDS: each row of YtkkdboimkbcfnaaDoorRows.lean that lists a variable, with what it lists TIED to the program's text (the seventh form; the later family's looks); each row that meets fmt, with fmt's text TOLD by the authors' own Lean function (tested against real Go, not proved from fmt's source: count such statements apart). THE CARD IS WHAT COUNTS. Prove the row's statement (the work); the ties are given (YtkkdboimkbcfnaaDoorTie.lean); close each card by the builder's one call (the guide's Derived/Test/ToyasCard.lean, 'card_holds'). Laid BY PROGRAM, IN A SANDBOX (cutbox-door.mjs). By AI agents, Wed Nov 11 2026. No macro, syntax, notation, axiom, sorry.
-/
import Derived.Test.YtkkdboimkbcfnaaDoorRows
import GoSem.ClaimSeven
namespace Go.Proofs.YtkkdboimkbcfnaaDoor
namespace Rows

/-- THE TIED CARD OF 'laws.FnRulesPut'. -/
def fnRulesPutCard : Claim7 := { stood := { row := fnRulesPutRow, standIns := [], harness := (true, "c8b1638670baff05ec0d69b5462afe5779a0c11326419bc5b65c4c57f58dbdb5"), looks := true }, kinds := [], alts := [], laidByText := true, laidKinds := [.data, .data, .data, .data, .sentinel, .sentinel, .pinned], laidTests := true, laidLooks := .later }
def FnRulesPutCardSaid : Prop := Claim7.holds Tryd.pinned (.plain (OpenSpec.ofChange fnRulesPutSpec)) fnRulesPutCard

/-- THE TIED CARD OF 'laws.FnExactRulesGet'. -/
def fnExactRulesGetCard : Claim7 := { stood := { row := fnExactRulesGetRow, standIns := [], harness := (true, "c8b1638670baff05ec0d69b5462afe5779a0c11326419bc5b65c4c57f58dbdb5"), looks := true }, kinds := [], alts := [], laidByText := true, laidKinds := [.data, .data, .data, .data, .sentinel, .sentinel, .pinned], laidTests := true, laidLooks := .later }
def FnExactRulesGetCardSaid : Prop := Claim7.holds Tryd.pinned (.plain (OpenSpec.ofChange fnExactRulesGetSpec)) fnExactRulesGetCard

/-- THE TIED CARD OF 'laws.FnRulesGet'. -/
def fnRulesGetCard : Claim7 := { stood := { row := fnRulesGetRow, standIns := [], harness := (true, "c8b1638670baff05ec0d69b5462afe5779a0c11326419bc5b65c4c57f58dbdb5"), looks := true }, kinds := [], alts := [], laidByText := true, laidKinds := [.data, .data, .data, .data, .sentinel, .sentinel, .pinned], laidTests := true, laidLooks := .later }
def FnRulesGetCardSaid : Prop := Claim7.holds Tryd.pinned (.plain (OpenSpec.ofChange fnRulesGetSpec)) fnRulesGetCard

/-- THE TIED CARD OF 'laws.FnExactAsmPut'. -/
def fnExactAsmPutCard : Claim7 := { stood := { row := fnExactAsmPutRow, standIns := [], harness := (true, "c8b1638670baff05ec0d69b5462afe5779a0c11326419bc5b65c4c57f58dbdb5"), looks := true }, kinds := [], alts := [], laidByText := true, laidKinds := [.data, .data, .data], laidTests := true, laidLooks := .later }
def FnExactAsmPutCardSaid : Prop := Claim7.holds Tryd.pinned (.plain (OpenSpec.ofChange fnExactAsmPutSpec)) fnExactAsmPutCard

/-- THE TIED CARD OF 'laws.FnAsmLines'. -/
def fnAsmLinesCard : Claim7 := { stood := { row := fnAsmLinesRow, standIns := [], harness := (true, "c8b1638670baff05ec0d69b5462afe5779a0c11326419bc5b65c4c57f58dbdb5"), looks := true }, kinds := [], alts := [], laidByText := true, laidKinds := [.data, .data, .data], laidTests := true, laidLooks := .later }
def FnAsmLinesCardSaid : Prop := Claim7.holds Tryd.pinned (.plain (OpenSpec.ofChange fnAsmLinesSpec)) fnAsmLinesCard

/-- THE SECOND FORM's CARD OF 'laws.FnRulesPut'. -/
def fnRulesPutUptoCard : Claim7 := { stood := { row := fnRulesPutUptoRow, standIns := [], harness := (true, "c8b1638670baff05ec0d69b5462afe5779a0c11326419bc5b65c4c57f58dbdb5"), looks := true }, kinds := [], alts := [], laidByText := true, laidKinds := [.data, .data, .data, .data, .sentinel, .sentinel, .pinned], laidTests := true, laidLooks := .later }
def FnRulesPutUptoCardSaid : Prop := Claim7.holds Tryd.pinned (.plain (OpenSpec.upto fnRulesPutSpec)) fnRulesPutUptoCard

/-- THE SECOND FORM's CARD OF 'laws.FnExactRulesGet'. -/
def fnExactRulesGetUptoCard : Claim7 := { stood := { row := fnExactRulesGetUptoRow, standIns := [], harness := (true, "c8b1638670baff05ec0d69b5462afe5779a0c11326419bc5b65c4c57f58dbdb5"), looks := true }, kinds := [], alts := [], laidByText := true, laidKinds := [.data, .data, .data, .data, .sentinel, .sentinel, .pinned], laidTests := true, laidLooks := .later }
def FnExactRulesGetUptoCardSaid : Prop := Claim7.holds Tryd.pinned (.plain (OpenSpec.upto fnExactRulesGetSpec)) fnExactRulesGetUptoCard

/-- THE SECOND FORM's CARD OF 'laws.FnRulesGet'. -/
def fnRulesGetUptoCard : Claim7 := { stood := { row := fnRulesGetUptoRow, standIns := [], harness := (true, "c8b1638670baff05ec0d69b5462afe5779a0c11326419bc5b65c4c57f58dbdb5"), looks := true }, kinds := [], alts := [], laidByText := true, laidKinds := [.data, .data, .data, .data, .sentinel, .sentinel, .pinned], laidTests := true, laidLooks := .later }
def FnRulesGetUptoCardSaid : Prop := Claim7.holds Tryd.pinned (.plain (OpenSpec.upto fnRulesGetSpec)) fnRulesGetUptoCard

/-- THE SECOND FORM's CARD OF 'laws.FnExactAsmPut'. -/
def fnExactAsmPutUptoCard : Claim7 := { stood := { row := fnExactAsmPutUptoRow, standIns := [], harness := (true, "c8b1638670baff05ec0d69b5462afe5779a0c11326419bc5b65c4c57f58dbdb5"), looks := true }, kinds := [], alts := [], laidByText := true, laidKinds := [.data, .data, .data], laidTests := true, laidLooks := .later }
def FnExactAsmPutUptoCardSaid : Prop := Claim7.holds Tryd.pinned (.plain (OpenSpec.upto fnExactAsmPutSpec)) fnExactAsmPutUptoCard

/-- THE SECOND FORM's CARD OF 'laws.FnAsmLines'. -/
def fnAsmLinesUptoCard : Claim7 := { stood := { row := fnAsmLinesUptoRow, standIns := [], harness := (true, "c8b1638670baff05ec0d69b5462afe5779a0c11326419bc5b65c4c57f58dbdb5"), looks := true }, kinds := [], alts := [], laidByText := true, laidKinds := [.data, .data, .data], laidTests := true, laidLooks := .later }
def FnAsmLinesUptoCardSaid : Prop := Claim7.holds Tryd.pinned (.plain (OpenSpec.upto fnAsmLinesSpec)) fnAsmLinesUptoCard
end Rows
end Go.Proofs.YtkkdboimkbcfnaaDoor
