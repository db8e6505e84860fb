/-
  DERIVED. GIVEN WITH THE SEED: THE CARDS: each row of YtmjplkbmhdkggaaDoorRows.lean that lists a variable, with what it lists TIED to the program's text (the seventh form; the later family's looks); each row that meets fmt, with fmt's text TOLD by the authors' own Lean function (tested against real Go, not proved from fmt's source: count such statements apart). THE CARD IS WHAT COUNTS. Prove the row's statement (the work); the ties are given (YtmjplkbmhdkggaaDoorTie.lean); close each card by the builder's one call (the guide's Derived/Test/ToyasCard.lean, 'card_holds'). Laid BY PROGRAM, IN A SANDBOX (cutbox-door.mjs). By AI agents, Wed Nov 11 2026. No macro, syntax, notation, axiom, sorry.
-/
import Derived.Test.YtmjplkbmhdkggaaDoorRows
import GoSem.ClaimSeven
namespace Go.Proofs.YtmjplkbmhdkggaaDoor
namespace Rows

/-- THE TIED CARD OF 'laws.FnExactStepsText'. -/
def fnExactStepsTextCard : Claim7 := { stood := { row := fnExactStepsTextRow, standIns := [], harness := (true, "f6f5adca5c586026740f9a979ae2f540b62045c9d32da16bc92e5d0c989efc92"), looks := true }, kinds := [], alts := [], laidByText := true, laidKinds := [.data, .data, .data], laidTests := true, laidLooks := .later }
def FnExactStepsTextCardSaid : Prop := Claim7.holds Tryd.pinned (.plain (OpenSpec.ofChange fnExactStepsTextSpec)) fnExactStepsTextCard

/-- THE TIED CARD OF 'laws.FnExactParseSteps'. -/
def fnExactParseStepsCard : Claim7 := { stood := { row := fnExactParseStepsRow, standIns := [], harness := (true, "f6f5adca5c586026740f9a979ae2f540b62045c9d32da16bc92e5d0c989efc92"), looks := true }, kinds := [], alts := [], laidByText := true, laidKinds := [.data, .data, .data, .data, .sentinel, .sentinel, .pinned], laidTests := true, laidLooks := .later }
def FnExactParseStepsCardSaid : Prop := Claim7.holds Tryd.pinned (.plain (OpenSpec.ofChange fnExactParseStepsSpec)) fnExactParseStepsCard

/-- THE SECOND FORM's CARD OF 'laws.FnExactStepsText'. -/
def fnExactStepsTextUptoCard : Claim7 := { stood := { row := fnExactStepsTextUptoRow, standIns := [], harness := (true, "f6f5adca5c586026740f9a979ae2f540b62045c9d32da16bc92e5d0c989efc92"), looks := true }, kinds := [], alts := [], laidByText := true, laidKinds := [.data, .data, .data], laidTests := true, laidLooks := .later }
def FnExactStepsTextUptoCardSaid : Prop := Claim7.holds Tryd.pinned (.plain (OpenSpec.upto fnExactStepsTextSpec)) fnExactStepsTextUptoCard

/-- THE SECOND FORM's CARD OF 'laws.FnExactParseSteps'. -/
def fnExactParseStepsUptoCard : Claim7 := { stood := { row := fnExactParseStepsUptoRow, standIns := [], harness := (true, "f6f5adca5c586026740f9a979ae2f540b62045c9d32da16bc92e5d0c989efc92"), looks := true }, kinds := [], alts := [], laidByText := true, laidKinds := [.data, .data, .data, .data, .sentinel, .sentinel, .pinned], laidTests := true, laidLooks := .later }
def FnExactParseStepsUptoCardSaid : Prop := Claim7.holds Tryd.pinned (.plain (OpenSpec.upto fnExactParseStepsSpec)) fnExactParseStepsUptoCard
end Rows
end Go.Proofs.YtmjplkbmhdkggaaDoor
