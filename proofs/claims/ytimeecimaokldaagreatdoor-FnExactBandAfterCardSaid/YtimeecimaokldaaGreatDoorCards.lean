/-
  DERIVED. GIVEN WITH THE SEED: THE CARDS: each row of YtimeecimaokldaaGreatDoorRows.lean that lists a variable, with what it lists TIED to the program's text (the seventh form; the later family's looks); each row that meets fmt, with fmt's text TOLD by the authors' own Lean function (tested against real Go, not proved from fmt's source: count such statements apart). THE CARD IS WHAT COUNTS. Prove the row's statement (the work); the ties are given (YtimeecimaokldaaGreatDoorTie.lean); close each card by the builder's one call (the guide's Derived/Test/ToyasCard.lean, 'card_holds'). Laid BY PROGRAM, IN A SANDBOX (cutbox-door.mjs). By AI agents, Wed Nov 11 2026. No macro, syntax, notation, axiom, sorry.
-/
import Derived.Test.YtimeecimaokldaaGreatDoorRows
import GoSem.ClaimSeven
namespace Go.Proofs.YtimeecimaokldaaGreatDoor
namespace Rows

/-- THE TIED CARD OF 'laws.FnExactBandAfter'. -/
def fnExactBandAfterCard : Claim7 := { stood := { row := fnExactBandAfterRow, standIns := [], harness := (true, "66b659f23d184993877e5eac3857ea3f9194afad652999298f8922a5ba4d43ce"), looks := false }, kinds := [], alts := [], laidByText := true, laidKinds := [.data, .data, .data], laidTests := true, laidLooks := .later }
def FnExactBandAfterCardSaid : Prop := Claim7.holds Tryz.pinned (.plain (OpenSpec.ofChange fnExactBandAfterSpec)) fnExactBandAfterCard

/-- THE TIED CARD OF 'laws.FnExactRecordTouch'. -/
def fnExactRecordTouchCard : Claim7 := { stood := { row := fnExactRecordTouchRow, standIns := [], harness := (true, "66b659f23d184993877e5eac3857ea3f9194afad652999298f8922a5ba4d43ce"), looks := false }, kinds := [], alts := [], laidByText := true, laidKinds := [.data, .data, .data], laidTests := true, laidLooks := .later }
def FnExactRecordTouchCardSaid : Prop := Claim7.holds Tryz.pinned (.plain (OpenSpec.ofChange fnExactRecordTouchSpec)) fnExactRecordTouchCard

/-- THE TIED CARD OF 'laws.FnDeafOnes'. -/
def fnDeafOnesCard : Claim7 := { stood := { row := fnDeafOnesRow, standIns := [], harness := (true, "66b659f23d184993877e5eac3857ea3f9194afad652999298f8922a5ba4d43ce"), looks := false }, kinds := [], alts := [], laidByText := true, laidKinds := [.data, .data, .data], laidTests := true, laidLooks := .later }
def FnDeafOnesCardSaid : Prop := Claim7.holds Tryz.pinned (.plain (OpenSpec.ofChange fnDeafOnesSpec)) fnDeafOnesCard

/-- THE TIED CARD OF 'laws.FnJudged'. -/
def fnJudgedCard : Claim7 := { stood := { row := fnJudgedRow, standIns := [], harness := (true, "66b659f23d184993877e5eac3857ea3f9194afad652999298f8922a5ba4d43ce"), looks := false }, kinds := [], alts := [], laidByText := true, laidKinds := [.data, .data, .data], laidTests := true, laidLooks := .later }
def FnJudgedCardSaid : Prop := Claim7.holds Tryz.pinned (.plain (OpenSpec.ofChange fnJudgedSpec)) fnJudgedCard

/-- THE SECOND FORM's CARD OF 'laws.FnExactBandAfter'. -/
def fnExactBandAfterUptoCard : Claim7 := { stood := { row := fnExactBandAfterUptoRow, standIns := [], harness := (true, "66b659f23d184993877e5eac3857ea3f9194afad652999298f8922a5ba4d43ce"), looks := false }, kinds := [], alts := [], laidByText := true, laidKinds := [.data, .data, .data], laidTests := true, laidLooks := .later }
def FnExactBandAfterUptoCardSaid : Prop := Claim7.holds Tryz.pinned (.plain (OpenSpec.upto fnExactBandAfterSpec)) fnExactBandAfterUptoCard

/-- THE SECOND FORM's CARD OF 'laws.FnExactRecordTouch'. -/
def fnExactRecordTouchUptoCard : Claim7 := { stood := { row := fnExactRecordTouchUptoRow, standIns := [], harness := (true, "66b659f23d184993877e5eac3857ea3f9194afad652999298f8922a5ba4d43ce"), looks := false }, kinds := [], alts := [], laidByText := true, laidKinds := [.data, .data, .data], laidTests := true, laidLooks := .later }
def FnExactRecordTouchUptoCardSaid : Prop := Claim7.holds Tryz.pinned (.plain (OpenSpec.upto fnExactRecordTouchSpec)) fnExactRecordTouchUptoCard

/-- THE SECOND FORM's CARD OF 'laws.FnDeafOnes'. -/
def fnDeafOnesUptoCard : Claim7 := { stood := { row := fnDeafOnesUptoRow, standIns := [], harness := (true, "66b659f23d184993877e5eac3857ea3f9194afad652999298f8922a5ba4d43ce"), looks := false }, kinds := [], alts := [], laidByText := true, laidKinds := [.data, .data, .data], laidTests := true, laidLooks := .later }
def FnDeafOnesUptoCardSaid : Prop := Claim7.holds Tryz.pinned (.plain (OpenSpec.upto fnDeafOnesSpec)) fnDeafOnesUptoCard

/-- THE SECOND FORM's CARD OF 'laws.FnJudged'. -/
def fnJudgedUptoCard : Claim7 := { stood := { row := fnJudgedUptoRow, standIns := [], harness := (true, "66b659f23d184993877e5eac3857ea3f9194afad652999298f8922a5ba4d43ce"), looks := false }, kinds := [], alts := [], laidByText := true, laidKinds := [.data, .data, .data], laidTests := true, laidLooks := .later }
def FnJudgedUptoCardSaid : Prop := Claim7.holds Tryz.pinned (.plain (OpenSpec.upto fnJudgedSpec)) fnJudgedUptoCard
end Rows
end Go.Proofs.YtimeecimaokldaaGreatDoor
