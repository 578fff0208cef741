/-
  DERIVED. GIVEN WITH THE SEED: THE CARDS: each row of YtofpjbdelmmclaaGreatDoorRows.lean that lists a variable, with what it lists TIED to the program's text (the seventh form; the later family's looks); each row that meets fmt, with fmt's text TOLD by the authors' own Lean function (tested against real Go, not proved from fmt's source: count such statements apart). THE CARD IS WHAT COUNTS. Prove the row's statement (the work); the ties are given (YtofpjbdelmmclaaGreatDoorTie.lean); close each card by the builder's one call (the guide's Derived/Test/ToyasCard.lean, 'card_holds'). Laid BY PROGRAM, IN A SANDBOX (cutbox-door.mjs). By AI agents, Wed Nov 11 2026. No macro, syntax, notation, axiom, sorry.
-/
import Derived.Test.YtofpjbdelmmclaaGreatDoorRows
import GoSem.ClaimSeven
namespace Go.Proofs.YtofpjbdelmmclaaGreatDoor
namespace Rows

/-- THE TIED CARD OF 'laws.FnProofTexts'. -/
def fnProofTextsCard : Claim7 := { stood := { row := fnProofTextsRow, standIns := [], harness := (true, "962078f0573f5df65948688de2d7721b3fc7dcf64cda33ee41b039127a31067a"), looks := false }, kinds := [], alts := [], laidByText := true, laidKinds := [.data, .data, .data, .data, .pinned], laidTests := true, laidLooks := .later }
def FnProofTextsCardSaid : Prop := Claim7.holds Tryz.pinned (.plain (OpenSpec.ofChange fnProofTextsSpec)) fnProofTextsCard

/-- THE TIED CARD OF 'laws.FnEvening'. -/
def fnEveningCard : Claim7 := { stood := { row := fnEveningRow, standIns := [], harness := (true, "962078f0573f5df65948688de2d7721b3fc7dcf64cda33ee41b039127a31067a"), looks := false }, kinds := [], alts := [], laidByText := true, laidKinds := [.data, .data, .data], laidTests := true, laidLooks := .later }
def FnEveningCardSaid : Prop := Claim7.holds Tryz.pinned (.plain (OpenSpec.ofChange fnEveningSpec)) fnEveningCard

/-- THE SECOND FORM's CARD OF 'laws.FnProofTexts'. -/
def fnProofTextsUptoCard : Claim7 := { stood := { row := fnProofTextsUptoRow, standIns := [], harness := (true, "962078f0573f5df65948688de2d7721b3fc7dcf64cda33ee41b039127a31067a"), looks := false }, kinds := [], alts := [], laidByText := true, laidKinds := [.data, .data, .data, .data, .pinned], laidTests := true, laidLooks := .later }
def FnProofTextsUptoCardSaid : Prop := Claim7.holds Tryz.pinned (.plain (OpenSpec.upto fnProofTextsSpec)) fnProofTextsUptoCard

/-- THE SECOND FORM's CARD OF 'laws.FnEvening'. -/
def fnEveningUptoCard : Claim7 := { stood := { row := fnEveningUptoRow, standIns := [], harness := (true, "962078f0573f5df65948688de2d7721b3fc7dcf64cda33ee41b039127a31067a"), looks := false }, kinds := [], alts := [], laidByText := true, laidKinds := [.data, .data, .data], laidTests := true, laidLooks := .later }
def FnEveningUptoCardSaid : Prop := Claim7.holds Tryz.pinned (.plain (OpenSpec.upto fnEveningSpec)) fnEveningUptoCard
end Rows
end Go.Proofs.YtofpjbdelmmclaaGreatDoor
