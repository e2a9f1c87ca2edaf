/-
  DERIVED. GIVEN WITH THE SEED: THE CARDS: each row of YtboobimpoddacaaGreatDoorRows.lean that lists a variable, with what it lists TIED to the program's text (the seventh form; the later family's looks); each row that meets fmt, with fmt's text TOLD by the authors' own Lean function (tested against real Go, not proved from fmt's source: count such statements apart). THE CARD IS WHAT COUNTS. Prove the row's statement (the work); the ties are given (YtboobimpoddacaaGreatDoorTie.lean); close each card by the builder's one call (the guide's Derived/Test/ToyasCard.lean, 'card_holds'). Laid BY PROGRAM, IN A SANDBOX (cutbox-door.mjs). By AI agents, Wed Nov 11 2026. No macro, syntax, notation, axiom, sorry.
-/
import Derived.Test.YtboobimpoddacaaGreatDoorRows
import GoSem.ClaimSeven
namespace Go.Proofs.YtboobimpoddacaaGreatDoor
namespace Rows

/-- THE TIED CARD OF 'laws.FnScriptCut'. -/
def fnScriptCutCard : Claim7 := { stood := { row := fnScriptCutRow, standIns := [], harness := (true, "c12135655a79740e7bbcf837685f6b159e61cf7c2af7b1b29d0881a9b14f82e2"), looks := true }, kinds := [], alts := [], laidByText := true, laidKinds := [.data, .data, .data, .data, .sentinel, .sentinel, .pinned], laidTests := true, laidLooks := .later }
def FnScriptCutCardSaid : Prop := Claim7.holds Tryz.pinned (.plain (OpenSpec.ofChange fnScriptCutSpec)) fnScriptCutCard

/-- THE TIED CARD OF 'laws.FnScriptClear'. -/
def fnScriptClearCard : Claim7 := { stood := { row := fnScriptClearRow, standIns := [], harness := (true, "c12135655a79740e7bbcf837685f6b159e61cf7c2af7b1b29d0881a9b14f82e2"), looks := true }, kinds := [], alts := [], laidByText := true, laidKinds := [.data, .data, .data, .data, .sentinel, .sentinel, .pinned], laidTests := true, laidLooks := .later }
def FnScriptClearCardSaid : Prop := Claim7.holds Tryz.pinned (.plain (OpenSpec.ofChange fnScriptClearSpec)) fnScriptClearCard

/-- THE TIED CARD OF 'laws.FnScriptWhat'. -/
def fnScriptWhatCard : Claim7 := { stood := { row := fnScriptWhatRow, standIns := [], harness := (true, "c12135655a79740e7bbcf837685f6b159e61cf7c2af7b1b29d0881a9b14f82e2"), looks := true }, kinds := [], alts := [], laidByText := true, laidKinds := [.data, .data, .data, .data, .sentinel, .sentinel, .pinned], laidTests := true, laidLooks := .later }
def FnScriptWhatCardSaid : Prop := Claim7.holds Tryz.pinned (.plain (OpenSpec.ofChange fnScriptWhatSpec)) fnScriptWhatCard

/-- THE TIED CARD OF 'laws.FnExactExecute'. -/
def fnExactExecuteCard : Claim7 := { stood := { row := fnExactExecuteRow, standIns := [], harness := (true, "c12135655a79740e7bbcf837685f6b159e61cf7c2af7b1b29d0881a9b14f82e2"), looks := true }, kinds := [], alts := [], laidByText := true, laidKinds := [.data, .data, .data, .data, .sentinel, .sentinel, .pinned], laidTests := true, laidLooks := .later }
def FnExactExecuteCardSaid : Prop := Claim7.holds Tryz.pinned (.plain (OpenSpec.ofChange fnExactExecuteSpec)) fnExactExecuteCard

/-- THE TIED CARD OF 'laws.FnScript'. -/
def fnScriptCard : Claim7 := { stood := { row := fnScriptRow, standIns := [], harness := (true, "c12135655a79740e7bbcf837685f6b159e61cf7c2af7b1b29d0881a9b14f82e2"), looks := true }, kinds := [], alts := [], laidByText := true, laidKinds := [.data, .data, .data, .data, .sentinel, .sentinel, .pinned], laidTests := true, laidLooks := .later }
def FnScriptCardSaid : Prop := Claim7.holds Tryz.pinned (.plain (OpenSpec.ofChange fnScriptSpec)) fnScriptCard

/-- THE TIED CARD OF 'laws.FnScriptNo'. -/
def fnScriptNoCard : Claim7 := { stood := { row := fnScriptNoRow, standIns := [], harness := (true, "c12135655a79740e7bbcf837685f6b159e61cf7c2af7b1b29d0881a9b14f82e2"), looks := true }, kinds := [], alts := [], laidByText := true, laidKinds := [.data, .data, .data, .data, .sentinel, .sentinel, .pinned], laidTests := true, laidLooks := .later }
def FnScriptNoCardSaid : Prop := Claim7.holds Tryz.pinned (.plain (OpenSpec.ofChange fnScriptNoSpec)) fnScriptNoCard

/-- THE TIED CARD OF 'laws.FnScriptPairs'. -/
def fnScriptPairsCard : Claim7 := { stood := { row := fnScriptPairsRow, standIns := [], harness := (true, "c12135655a79740e7bbcf837685f6b159e61cf7c2af7b1b29d0881a9b14f82e2"), looks := true }, kinds := [], alts := [], laidByText := true, laidKinds := [.data, .data, .data, .data, .sentinel, .sentinel, .pinned], laidTests := true, laidLooks := .later }
def FnScriptPairsCardSaid : Prop := Claim7.holds Tryz.pinned (.plain (OpenSpec.ofChange fnScriptPairsSpec)) fnScriptPairsCard

/-- THE TIED CARD OF 'laws.FnScriptRisk'. -/
def fnScriptRiskCard : Claim7 := { stood := { row := fnScriptRiskRow, standIns := [], harness := (true, "c12135655a79740e7bbcf837685f6b159e61cf7c2af7b1b29d0881a9b14f82e2"), looks := true }, kinds := [], alts := [], laidByText := true, laidKinds := [.data, .data, .data, .data, .sentinel, .sentinel, .pinned], laidTests := true, laidLooks := .later }
def FnScriptRiskCardSaid : Prop := Claim7.holds Tryz.pinned (.plain (OpenSpec.ofChange fnScriptRiskSpec)) fnScriptRiskCard

/-- THE TIED CARD OF 'laws.FnScriptRunoff'. -/
def fnScriptRunoffCard : Claim7 := { stood := { row := fnScriptRunoffRow, standIns := [], harness := (true, "c12135655a79740e7bbcf837685f6b159e61cf7c2af7b1b29d0881a9b14f82e2"), looks := true }, kinds := [], alts := [], laidByText := true, laidKinds := [.data, .data, .data, .data, .sentinel, .sentinel, .pinned], laidTests := true, laidLooks := .later }
def FnScriptRunoffCardSaid : Prop := Claim7.holds Tryz.pinned (.plain (OpenSpec.ofChange fnScriptRunoffSpec)) fnScriptRunoffCard

/-- THE SECOND FORM's CARD OF 'laws.FnScriptCut'. -/
def fnScriptCutUptoCard : Claim7 := { stood := { row := fnScriptCutUptoRow, standIns := [], harness := (true, "c12135655a79740e7bbcf837685f6b159e61cf7c2af7b1b29d0881a9b14f82e2"), looks := true }, kinds := [], alts := [], laidByText := true, laidKinds := [.data, .data, .data, .data, .sentinel, .sentinel, .pinned], laidTests := true, laidLooks := .later }
def FnScriptCutUptoCardSaid : Prop := Claim7.holds Tryz.pinned (.plain (OpenSpec.upto fnScriptCutSpec)) fnScriptCutUptoCard

/-- THE SECOND FORM's CARD OF 'laws.FnScriptClear'. -/
def fnScriptClearUptoCard : Claim7 := { stood := { row := fnScriptClearUptoRow, standIns := [], harness := (true, "c12135655a79740e7bbcf837685f6b159e61cf7c2af7b1b29d0881a9b14f82e2"), looks := true }, kinds := [], alts := [], laidByText := true, laidKinds := [.data, .data, .data, .data, .sentinel, .sentinel, .pinned], laidTests := true, laidLooks := .later }
def FnScriptClearUptoCardSaid : Prop := Claim7.holds Tryz.pinned (.plain (OpenSpec.upto fnScriptClearSpec)) fnScriptClearUptoCard

/-- THE SECOND FORM's CARD OF 'laws.FnScriptWhat'. -/
def fnScriptWhatUptoCard : Claim7 := { stood := { row := fnScriptWhatUptoRow, standIns := [], harness := (true, "c12135655a79740e7bbcf837685f6b159e61cf7c2af7b1b29d0881a9b14f82e2"), looks := true }, kinds := [], alts := [], laidByText := true, laidKinds := [.data, .data, .data, .data, .sentinel, .sentinel, .pinned], laidTests := true, laidLooks := .later }
def FnScriptWhatUptoCardSaid : Prop := Claim7.holds Tryz.pinned (.plain (OpenSpec.upto fnScriptWhatSpec)) fnScriptWhatUptoCard

/-- THE SECOND FORM's CARD OF 'laws.FnExactExecute'. -/
def fnExactExecuteUptoCard : Claim7 := { stood := { row := fnExactExecuteUptoRow, standIns := [], harness := (true, "c12135655a79740e7bbcf837685f6b159e61cf7c2af7b1b29d0881a9b14f82e2"), looks := true }, kinds := [], alts := [], laidByText := true, laidKinds := [.data, .data, .data, .data, .sentinel, .sentinel, .pinned], laidTests := true, laidLooks := .later }
def FnExactExecuteUptoCardSaid : Prop := Claim7.holds Tryz.pinned (.plain (OpenSpec.upto fnExactExecuteSpec)) fnExactExecuteUptoCard

/-- THE SECOND FORM's CARD OF 'laws.FnScript'. -/
def fnScriptUptoCard : Claim7 := { stood := { row := fnScriptUptoRow, standIns := [], harness := (true, "c12135655a79740e7bbcf837685f6b159e61cf7c2af7b1b29d0881a9b14f82e2"), looks := true }, kinds := [], alts := [], laidByText := true, laidKinds := [.data, .data, .data, .data, .sentinel, .sentinel, .pinned], laidTests := true, laidLooks := .later }
def FnScriptUptoCardSaid : Prop := Claim7.holds Tryz.pinned (.plain (OpenSpec.upto fnScriptSpec)) fnScriptUptoCard

/-- THE SECOND FORM's CARD OF 'laws.FnScriptNo'. -/
def fnScriptNoUptoCard : Claim7 := { stood := { row := fnScriptNoUptoRow, standIns := [], harness := (true, "c12135655a79740e7bbcf837685f6b159e61cf7c2af7b1b29d0881a9b14f82e2"), looks := true }, kinds := [], alts := [], laidByText := true, laidKinds := [.data, .data, .data, .data, .sentinel, .sentinel, .pinned], laidTests := true, laidLooks := .later }
def FnScriptNoUptoCardSaid : Prop := Claim7.holds Tryz.pinned (.plain (OpenSpec.upto fnScriptNoSpec)) fnScriptNoUptoCard

/-- THE SECOND FORM's CARD OF 'laws.FnScriptPairs'. -/
def fnScriptPairsUptoCard : Claim7 := { stood := { row := fnScriptPairsUptoRow, standIns := [], harness := (true, "c12135655a79740e7bbcf837685f6b159e61cf7c2af7b1b29d0881a9b14f82e2"), looks := true }, kinds := [], alts := [], laidByText := true, laidKinds := [.data, .data, .data, .data, .sentinel, .sentinel, .pinned], laidTests := true, laidLooks := .later }
def FnScriptPairsUptoCardSaid : Prop := Claim7.holds Tryz.pinned (.plain (OpenSpec.upto fnScriptPairsSpec)) fnScriptPairsUptoCard

/-- THE SECOND FORM's CARD OF 'laws.FnScriptRisk'. -/
def fnScriptRiskUptoCard : Claim7 := { stood := { row := fnScriptRiskUptoRow, standIns := [], harness := (true, "c12135655a79740e7bbcf837685f6b159e61cf7c2af7b1b29d0881a9b14f82e2"), looks := true }, kinds := [], alts := [], laidByText := true, laidKinds := [.data, .data, .data, .data, .sentinel, .sentinel, .pinned], laidTests := true, laidLooks := .later }
def FnScriptRiskUptoCardSaid : Prop := Claim7.holds Tryz.pinned (.plain (OpenSpec.upto fnScriptRiskSpec)) fnScriptRiskUptoCard

/-- THE SECOND FORM's CARD OF 'laws.FnScriptRunoff'. -/
def fnScriptRunoffUptoCard : Claim7 := { stood := { row := fnScriptRunoffUptoRow, standIns := [], harness := (true, "c12135655a79740e7bbcf837685f6b159e61cf7c2af7b1b29d0881a9b14f82e2"), looks := true }, kinds := [], alts := [], laidByText := true, laidKinds := [.data, .data, .data, .data, .sentinel, .sentinel, .pinned], laidTests := true, laidLooks := .later }
def FnScriptRunoffUptoCardSaid : Prop := Claim7.holds Tryz.pinned (.plain (OpenSpec.upto fnScriptRunoffSpec)) fnScriptRunoffUptoCard
end Rows
end Go.Proofs.YtboobimpoddacaaGreatDoor
