/-
  DERIVED. GIVEN WITH THE SEED: THE CARDS: each row of YtenhnloljdfjhaaDoorRows.lean that lists a variable, with what it lists TIED to the program's text (the seventh form; the later family's looks); each row that meets fmt, with fmt's text TOLD by the authors' own Lean function (tested against real Go, not proved from fmt's source: count such statements apart). THE CARD IS WHAT COUNTS. Prove the row's statement (the work); the ties are given (YtenhnloljdfjhaaDoorTie.lean); close each card by the builder's one call (the guide's Derived/Test/ToyasCard.lean, 'card_holds'). Laid BY PROGRAM, IN A SANDBOX (cutbox-door.mjs). By AI agents, Wed Nov 11 2026. No macro, syntax, notation, axiom, sorry.
-/
import Derived.Test.YtenhnloljdfjhaaDoorRows
import GoSem.ClaimSeven
namespace Go.Proofs.YtenhnloljdfjhaaDoor
namespace Rows

/-- THE TIED CARD OF 'laws.FnExactReadLibrary'. -/
def fnExactReadLibraryCard : Claim7 := { stood := { row := fnExactReadLibraryRow, standIns := [], harness := (true, "667a6867ab6d21e085d36756e3880804e30d3880c57147519c95e1c4b4dbad2c"), looks := false }, kinds := [], alts := [], laidByText := true, laidKinds := [.data, .data, .data, .data, .pinned], laidTests := true, laidLooks := .later }
def FnExactReadLibraryCardSaid : Prop := Claim7.holds Tryd.pinned (.plain (OpenSpec.ofChange fnExactReadLibrarySpec)) fnExactReadLibraryCard

/-- THE SECOND FORM's CARD OF 'laws.FnExactReadLibrary'. -/
def fnExactReadLibraryUptoCard : Claim7 := { stood := { row := fnExactReadLibraryUptoRow, standIns := [], harness := (true, "667a6867ab6d21e085d36756e3880804e30d3880c57147519c95e1c4b4dbad2c"), looks := false }, kinds := [], alts := [], laidByText := true, laidKinds := [.data, .data, .data, .data, .pinned], laidTests := true, laidLooks := .later }
def FnExactReadLibraryUptoCardSaid : Prop := Claim7.holds Tryd.pinned (.plain (OpenSpec.upto fnExactReadLibrarySpec)) fnExactReadLibraryUptoCard
end Rows
end Go.Proofs.YtenhnloljdfjhaaDoor
