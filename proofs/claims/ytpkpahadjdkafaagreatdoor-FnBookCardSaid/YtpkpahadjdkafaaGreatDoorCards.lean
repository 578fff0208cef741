/-
  DERIVED. GIVEN WITH THE SEED: THE CARDS: each row of YtpkpahadjdkafaaGreatDoorRows.lean that lists a variable, with what it lists TIED to the program's text (the seventh form; the later family's looks); each row that meets fmt, with fmt's text TOLD by the authors' own Lean function (tested against real Go, not proved from fmt's source: count such statements apart). THE CARD IS WHAT COUNTS. Prove the row's statement (the work); the ties are given (YtpkpahadjdkafaaGreatDoorTie.lean); close each card by the builder's one call (the guide's Derived/Test/ToyasCard.lean, 'card_holds'). Laid BY PROGRAM, IN A SANDBOX (cutbox-door.mjs). By AI agents, Wed Nov 11 2026. No macro, syntax, notation, axiom, sorry.
-/
import Derived.Test.YtpkpahadjdkafaaGreatDoorRows
import GoSem.ClaimSeven
namespace Go.Proofs.YtpkpahadjdkafaaGreatDoor
namespace Rows

/-- THE TIED CARD OF 'laws.FnBook'. -/
def fnBookCard : Claim7 := { stood := { row := fnBookRow, standIns := [], harness := (true, "f6091cfa27f3ed299d3d5747e0325d8040d0b55531e668af5c9b39df9f8a0635"), looks := false }, kinds := [], alts := [], laidByText := true, laidKinds := [.data, .data, .data, .data, .pinned], laidTests := true, laidLooks := .later }
def FnBookCardSaid : Prop := Claim7.holds Tryz.pinned (.plain (OpenSpec.ofChange fnBookSpec)) fnBookCard

/-- THE SECOND FORM's CARD OF 'laws.FnBook'. -/
def fnBookUptoCard : Claim7 := { stood := { row := fnBookUptoRow, standIns := [], harness := (true, "f6091cfa27f3ed299d3d5747e0325d8040d0b55531e668af5c9b39df9f8a0635"), looks := false }, kinds := [], alts := [], laidByText := true, laidKinds := [.data, .data, .data, .data, .pinned], laidTests := true, laidLooks := .later }
def FnBookUptoCardSaid : Prop := Claim7.holds Tryz.pinned (.plain (OpenSpec.upto fnBookSpec)) fnBookUptoCard
end Rows
end Go.Proofs.YtpkpahadjdkafaaGreatDoor
