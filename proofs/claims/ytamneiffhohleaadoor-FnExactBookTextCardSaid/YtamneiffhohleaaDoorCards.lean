/-
  DERIVED. GIVEN WITH THE SEED: THE CARDS: each row of YtamneiffhohleaaDoorRows.lean that lists a variable, with what it lists TIED to the program's text (the seventh form; the later family's looks); each row that meets fmt, with fmt's text TOLD by the authors' own Lean function (tested against real Go, not proved from fmt's source: count such statements apart). THE CARD IS WHAT COUNTS. Prove the row's statement (the work); the ties are given (YtamneiffhohleaaDoorTie.lean); close each card by the builder's one call (the guide's Derived/Test/ToyasCard.lean, 'card_holds'). Laid BY PROGRAM, IN A SANDBOX (cutbox-door.mjs). By AI agents, Wed Nov 11 2026. No macro, syntax, notation, axiom, sorry.
-/
import Derived.Test.YtamneiffhohleaaDoorRows
import GoSem.ClaimSeven
namespace Go.Proofs.YtamneiffhohleaaDoor
namespace Rows

/-- THE TIED CARD OF 'laws.FnExactStudyText'. -/
def fnExactStudyTextCard : Claim7 := { stood := { row := fnExactStudyTextRow, standIns := [], harness := (true, "ad0f649a56ca76a36a0ae94eb7f0c4319ea9bf5933383d3431642fe0d3b2ccb8"), looks := false }, kinds := [], alts := [], laidByText := true, laidKinds := [.data, .data, .data], laidTests := true, laidLooks := .later }
def FnExactStudyTextCardSaid : Prop := Claim7.holds Tryd.pinned (.plain (OpenSpec.ofChange fnExactStudyTextSpec)) fnExactStudyTextCard

/-- THE TIED CARD OF 'laws.FnExactPlanText'. -/
def fnExactPlanTextCard : Claim7 := { stood := { row := fnExactPlanTextRow, standIns := [], harness := (true, "ad0f649a56ca76a36a0ae94eb7f0c4319ea9bf5933383d3431642fe0d3b2ccb8"), looks := false }, kinds := [], alts := [], laidByText := true, laidKinds := [.data, .data, .data], laidTests := true, laidLooks := .later }
def FnExactPlanTextCardSaid : Prop := Claim7.holds Tryd.pinned (.plain (OpenSpec.ofChange fnExactPlanTextSpec)) fnExactPlanTextCard

/-- THE TIED CARD OF 'laws.FnExactLibraryText'. -/
def fnExactLibraryTextCard : Claim7 := { stood := { row := fnExactLibraryTextRow, standIns := [], harness := (true, "ad0f649a56ca76a36a0ae94eb7f0c4319ea9bf5933383d3431642fe0d3b2ccb8"), looks := false }, kinds := [], alts := [], laidByText := true, laidKinds := [.data, .data, .data], laidTests := true, laidLooks := .later }
def FnExactLibraryTextCardSaid : Prop := Claim7.holds Tryd.pinned (.plain (OpenSpec.ofChange fnExactLibraryTextSpec)) fnExactLibraryTextCard

/-- THE TIED CARD OF 'laws.FnExactBookText'. -/
def fnExactBookTextCard : Claim7 := { stood := { row := fnExactBookTextRow, standIns := [], harness := (true, "ad0f649a56ca76a36a0ae94eb7f0c4319ea9bf5933383d3431642fe0d3b2ccb8"), looks := false }, kinds := [], alts := [], laidByText := true, laidKinds := [.data, .data, .data], laidTests := true, laidLooks := .later }
def FnExactBookTextCardSaid : Prop := Claim7.holds Tryd.pinned (.plain (OpenSpec.ofChange fnExactBookTextSpec)) fnExactBookTextCard

/-- THE SECOND FORM's CARD OF 'laws.FnExactStudyText'. -/
def fnExactStudyTextUptoCard : Claim7 := { stood := { row := fnExactStudyTextUptoRow, standIns := [], harness := (true, "ad0f649a56ca76a36a0ae94eb7f0c4319ea9bf5933383d3431642fe0d3b2ccb8"), looks := false }, kinds := [], alts := [], laidByText := true, laidKinds := [.data, .data, .data], laidTests := true, laidLooks := .later }
def FnExactStudyTextUptoCardSaid : Prop := Claim7.holds Tryd.pinned (.plain (OpenSpec.upto fnExactStudyTextSpec)) fnExactStudyTextUptoCard

/-- THE SECOND FORM's CARD OF 'laws.FnExactPlanText'. -/
def fnExactPlanTextUptoCard : Claim7 := { stood := { row := fnExactPlanTextUptoRow, standIns := [], harness := (true, "ad0f649a56ca76a36a0ae94eb7f0c4319ea9bf5933383d3431642fe0d3b2ccb8"), looks := false }, kinds := [], alts := [], laidByText := true, laidKinds := [.data, .data, .data], laidTests := true, laidLooks := .later }
def FnExactPlanTextUptoCardSaid : Prop := Claim7.holds Tryd.pinned (.plain (OpenSpec.upto fnExactPlanTextSpec)) fnExactPlanTextUptoCard

/-- THE SECOND FORM's CARD OF 'laws.FnExactLibraryText'. -/
def fnExactLibraryTextUptoCard : Claim7 := { stood := { row := fnExactLibraryTextUptoRow, standIns := [], harness := (true, "ad0f649a56ca76a36a0ae94eb7f0c4319ea9bf5933383d3431642fe0d3b2ccb8"), looks := false }, kinds := [], alts := [], laidByText := true, laidKinds := [.data, .data, .data], laidTests := true, laidLooks := .later }
def FnExactLibraryTextUptoCardSaid : Prop := Claim7.holds Tryd.pinned (.plain (OpenSpec.upto fnExactLibraryTextSpec)) fnExactLibraryTextUptoCard

/-- THE SECOND FORM's CARD OF 'laws.FnExactBookText'. -/
def fnExactBookTextUptoCard : Claim7 := { stood := { row := fnExactBookTextUptoRow, standIns := [], harness := (true, "ad0f649a56ca76a36a0ae94eb7f0c4319ea9bf5933383d3431642fe0d3b2ccb8"), looks := false }, kinds := [], alts := [], laidByText := true, laidKinds := [.data, .data, .data], laidTests := true, laidLooks := .later }
def FnExactBookTextUptoCardSaid : Prop := Claim7.holds Tryd.pinned (.plain (OpenSpec.upto fnExactBookTextSpec)) fnExactBookTextUptoCard
end Rows
end Go.Proofs.YtamneiffhohleaaDoor
