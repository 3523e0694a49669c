/-
  DERIVED. GIVEN WITH THE SEED: THE CARDS: each row of YtcbdilccmjpnbaaGreatDoorRows.lean that lists a variable, with what it lists TIED to the program's text (the seventh form; the later family's looks); each row that meets fmt, with fmt's text TOLD by the authors' own Lean function (tested against real Go, not proved from fmt's source: count such statements apart). THE CARD IS WHAT COUNTS. Prove the row's statement (the work); the ties are given (YtcbdilccmjpnbaaGreatDoorTie.lean); close each card by the builder's one call (the guide's Derived/Test/ToyasCard.lean, 'card_holds'). Laid BY PROGRAM, IN A SANDBOX (cutbox-door.mjs). By AI agents, Wed Nov 11 2026. No macro, syntax, notation, axiom, sorry.
-/
import Derived.Test.YtcbdilccmjpnbaaGreatDoorRows
import GoSem.ClaimSeven
namespace Go.Proofs.YtcbdilccmjpnbaaGreatDoor
namespace Rows

/-- THE TIED CARD OF 'laws.FnExactAllMany'. -/
def fnExactAllManyCard : Claim7 := { stood := { row := fnExactAllManyRow, standIns := [], harness := (true, "a0bd80aafa792b504725fbc5849415e872e07df50d8d9208eb54546cb54b2c18"), looks := false }, kinds := [], alts := [], laidByText := true, laidKinds := [.data, .data, .data], laidTests := true, laidLooks := .later }
def FnExactAllManyCardSaid : Prop := Claim7.holds Tryz.pinned (.plain (OpenSpec.ofChange fnExactAllManySpec)) fnExactAllManyCard

/-- THE TIED CARD OF 'laws.FnExactAllStuck'. -/
def fnExactAllStuckCard : Claim7 := { stood := { row := fnExactAllStuckRow, standIns := [], harness := (true, "a0bd80aafa792b504725fbc5849415e872e07df50d8d9208eb54546cb54b2c18"), looks := false }, kinds := [], alts := [], laidByText := true, laidKinds := [.data, .data, .data], laidTests := true, laidLooks := .later }
def FnExactAllStuckCardSaid : Prop := Claim7.holds Tryz.pinned (.plain (OpenSpec.ofChange fnExactAllStuckSpec)) fnExactAllStuckCard

/-- THE TIED CARD OF 'laws.FnExactAllEnds'. -/
def fnExactAllEndsCard : Claim7 := { stood := { row := fnExactAllEndsRow, standIns := [], harness := (true, "a0bd80aafa792b504725fbc5849415e872e07df50d8d9208eb54546cb54b2c18"), looks := false }, kinds := [], alts := [], laidByText := true, laidKinds := [.data, .data, .data], laidTests := true, laidLooks := .later }
def FnExactAllEndsCardSaid : Prop := Claim7.holds Tryz.pinned (.plain (OpenSpec.ofChange fnExactAllEndsSpec)) fnExactAllEndsCard

/-- THE SECOND FORM's CARD OF 'laws.FnExactAllMany'. -/
def fnExactAllManyUptoCard : Claim7 := { stood := { row := fnExactAllManyUptoRow, standIns := [], harness := (true, "a0bd80aafa792b504725fbc5849415e872e07df50d8d9208eb54546cb54b2c18"), looks := false }, kinds := [], alts := [], laidByText := true, laidKinds := [.data, .data, .data], laidTests := true, laidLooks := .later }
def FnExactAllManyUptoCardSaid : Prop := Claim7.holds Tryz.pinned (.plain (OpenSpec.upto fnExactAllManySpec)) fnExactAllManyUptoCard

/-- THE SECOND FORM's CARD OF 'laws.FnExactAllStuck'. -/
def fnExactAllStuckUptoCard : Claim7 := { stood := { row := fnExactAllStuckUptoRow, standIns := [], harness := (true, "a0bd80aafa792b504725fbc5849415e872e07df50d8d9208eb54546cb54b2c18"), looks := false }, kinds := [], alts := [], laidByText := true, laidKinds := [.data, .data, .data], laidTests := true, laidLooks := .later }
def FnExactAllStuckUptoCardSaid : Prop := Claim7.holds Tryz.pinned (.plain (OpenSpec.upto fnExactAllStuckSpec)) fnExactAllStuckUptoCard

/-- THE SECOND FORM's CARD OF 'laws.FnExactAllEnds'. -/
def fnExactAllEndsUptoCard : Claim7 := { stood := { row := fnExactAllEndsUptoRow, standIns := [], harness := (true, "a0bd80aafa792b504725fbc5849415e872e07df50d8d9208eb54546cb54b2c18"), looks := false }, kinds := [], alts := [], laidByText := true, laidKinds := [.data, .data, .data], laidTests := true, laidLooks := .later }
def FnExactAllEndsUptoCardSaid : Prop := Claim7.holds Tryz.pinned (.plain (OpenSpec.upto fnExactAllEndsSpec)) fnExactAllEndsUptoCard
end Rows
end Go.Proofs.YtcbdilccmjpnbaaGreatDoor
