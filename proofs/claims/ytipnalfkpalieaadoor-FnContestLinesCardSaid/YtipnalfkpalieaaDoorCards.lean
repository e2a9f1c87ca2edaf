/-
  DERIVED. GIVEN WITH THE SEED: THE CARDS: each row of YtipnalfkpalieaaDoorRows.lean that lists a variable, with what it lists TIED to the program's text (the seventh form; the later family's looks); each row that meets fmt, with fmt's text TOLD by the authors' own Lean function (tested against real Go, not proved from fmt's source: count such statements apart). THE CARD IS WHAT COUNTS. Prove the row's statement (the work); the ties are given (YtipnalfkpalieaaDoorTie.lean); close each card by the builder's one call (the guide's Derived/Test/ToyasCard.lean, 'card_holds'). Laid BY PROGRAM, IN A SANDBOX (cutbox-door.mjs). By AI agents, Wed Nov 11 2026. No macro, syntax, notation, axiom, sorry.
-/
import Derived.Test.YtipnalfkpalieaaDoorRows
import GoSem.ClaimSeven
namespace Go.Proofs.YtipnalfkpalieaaDoor
namespace Rows

/-- THE TIED CARD OF 'laws.FnExactContestText'. -/
def fnExactContestTextCard : Claim7 := { stood := { row := fnExactContestTextRow, standIns := [], harness := (true, "766d3be925b4c24269997234f419a61e9764f7cd8b371ead23a3d5c3885b9854"), looks := false }, kinds := [], alts := [], laidByText := true, laidKinds := [.data, .data, .data], laidTests := true, laidLooks := .later }
def FnExactContestTextCardSaid : Prop := Claim7.holds Tryd.pinned (.plain (OpenSpec.ofChange fnExactContestTextSpec)) fnExactContestTextCard

/-- THE TIED CARD OF 'laws.FnContestLines'. -/
def fnContestLinesCard : Claim7 := { stood := { row := fnContestLinesRow, standIns := [], harness := (true, "766d3be925b4c24269997234f419a61e9764f7cd8b371ead23a3d5c3885b9854"), looks := false }, kinds := [], alts := [], laidByText := true, laidKinds := [.data, .data, .data], laidTests := true, laidLooks := .later }
def FnContestLinesCardSaid : Prop := Claim7.holds Tryd.pinned (.plain (OpenSpec.ofChange fnContestLinesSpec)) fnContestLinesCard

/-- THE TIED CARD OF 'laws.FnContestText'. -/
def fnContestTextCard : Claim7 := { stood := { row := fnContestTextRow, standIns := [], harness := (true, "766d3be925b4c24269997234f419a61e9764f7cd8b371ead23a3d5c3885b9854"), looks := false }, kinds := [], alts := [], laidByText := true, laidKinds := [.data, .data, .data], laidTests := true, laidLooks := .later }
def FnContestTextCardSaid : Prop := Claim7.holds Tryd.pinned (.plain (OpenSpec.ofChange fnContestTextSpec)) fnContestTextCard

/-- THE SECOND FORM's CARD OF 'laws.FnExactContestText'. -/
def fnExactContestTextUptoCard : Claim7 := { stood := { row := fnExactContestTextUptoRow, standIns := [], harness := (true, "766d3be925b4c24269997234f419a61e9764f7cd8b371ead23a3d5c3885b9854"), looks := false }, kinds := [], alts := [], laidByText := true, laidKinds := [.data, .data, .data], laidTests := true, laidLooks := .later }
def FnExactContestTextUptoCardSaid : Prop := Claim7.holds Tryd.pinned (.plain (OpenSpec.upto fnExactContestTextSpec)) fnExactContestTextUptoCard

/-- THE SECOND FORM's CARD OF 'laws.FnContestLines'. -/
def fnContestLinesUptoCard : Claim7 := { stood := { row := fnContestLinesUptoRow, standIns := [], harness := (true, "766d3be925b4c24269997234f419a61e9764f7cd8b371ead23a3d5c3885b9854"), looks := false }, kinds := [], alts := [], laidByText := true, laidKinds := [.data, .data, .data], laidTests := true, laidLooks := .later }
def FnContestLinesUptoCardSaid : Prop := Claim7.holds Tryd.pinned (.plain (OpenSpec.upto fnContestLinesSpec)) fnContestLinesUptoCard

/-- THE SECOND FORM's CARD OF 'laws.FnContestText'. -/
def fnContestTextUptoCard : Claim7 := { stood := { row := fnContestTextUptoRow, standIns := [], harness := (true, "766d3be925b4c24269997234f419a61e9764f7cd8b371ead23a3d5c3885b9854"), looks := false }, kinds := [], alts := [], laidByText := true, laidKinds := [.data, .data, .data], laidTests := true, laidLooks := .later }
def FnContestTextUptoCardSaid : Prop := Claim7.holds Tryd.pinned (.plain (OpenSpec.upto fnContestTextSpec)) fnContestTextUptoCard
end Rows
end Go.Proofs.YtipnalfkpalieaaDoor
