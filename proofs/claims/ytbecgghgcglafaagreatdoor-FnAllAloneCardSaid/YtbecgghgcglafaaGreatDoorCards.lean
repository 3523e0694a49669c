/-
  DERIVED. GIVEN WITH THE SEED: THE CARDS: each row of YtbecgghgcglafaaGreatDoorRows.lean that lists a variable, with what it lists TIED to the program's text (the seventh form; the later family's looks); each row that meets fmt, with fmt's text TOLD by the authors' own Lean function (tested against real Go, not proved from fmt's source: count such statements apart). THE CARD IS WHAT COUNTS. Prove the row's statement (the work); the ties are given (YtbecgghgcglafaaGreatDoorTie.lean); close each card by the builder's one call (the guide's Derived/Test/ToyasCard.lean, 'card_holds'). Laid BY PROGRAM, IN A SANDBOX (cutbox-door.mjs). By AI agents, Wed Nov 11 2026. No macro, syntax, notation, axiom, sorry.
-/
import Derived.Test.YtbecgghgcglafaaGreatDoorRows
import GoSem.ClaimSeven
namespace Go.Proofs.YtbecgghgcglafaaGreatDoor
namespace Rows

/-- THE TIED CARD OF 'laws.FnAllTold'. -/
def fnAllToldCard : Claim7 := { stood := { row := fnAllToldRow, standIns := [], harness := (true, "ded24f2136c6976fe37118905f33aa67e4aa578417ca4b4534740c430345bf5d"), looks := false }, kinds := [], alts := [], laidByText := true, laidKinds := [.data, .data, .data], laidTests := true, laidLooks := .later }
def FnAllToldCardSaid : Prop := Claim7.holds Tryz.pinned (.plain (OpenSpec.ofChange fnAllToldSpec)) fnAllToldCard

/-- THE TIED CARD OF 'laws.FnAllEnds'. -/
def fnAllEndsCard : Claim7 := { stood := { row := fnAllEndsRow, standIns := [], harness := (true, "ded24f2136c6976fe37118905f33aa67e4aa578417ca4b4534740c430345bf5d"), looks := false }, kinds := [], alts := [], laidByText := true, laidKinds := [.data, .data, .data], laidTests := true, laidLooks := .later }
def FnAllEndsCardSaid : Prop := Claim7.holds Tryz.pinned (.plain (OpenSpec.ofChange fnAllEndsSpec)) fnAllEndsCard

/-- THE TIED CARD OF 'laws.FnAllAlone'. -/
def fnAllAloneCard : Claim7 := { stood := { row := fnAllAloneRow, standIns := [], harness := (true, "ded24f2136c6976fe37118905f33aa67e4aa578417ca4b4534740c430345bf5d"), looks := false }, kinds := [], alts := [], laidByText := true, laidKinds := [.data, .data, .data], laidTests := true, laidLooks := .later }
def FnAllAloneCardSaid : Prop := Claim7.holds Tryz.pinned (.plain (OpenSpec.ofChange fnAllAloneSpec)) fnAllAloneCard

/-- THE TIED CARD OF 'laws.FnAllTurn'. -/
def fnAllTurnCard : Claim7 := { stood := { row := fnAllTurnRow, standIns := [], harness := (true, "ded24f2136c6976fe37118905f33aa67e4aa578417ca4b4534740c430345bf5d"), looks := false }, kinds := [], alts := [], laidByText := true, laidKinds := [.data, .data, .data], laidTests := true, laidLooks := .later }
def FnAllTurnCardSaid : Prop := Claim7.holds Tryz.pinned (.plain (OpenSpec.ofChange fnAllTurnSpec)) fnAllTurnCard

/-- THE SECOND FORM's CARD OF 'laws.FnAllTold'. -/
def fnAllToldUptoCard : Claim7 := { stood := { row := fnAllToldUptoRow, standIns := [], harness := (true, "ded24f2136c6976fe37118905f33aa67e4aa578417ca4b4534740c430345bf5d"), looks := false }, kinds := [], alts := [], laidByText := true, laidKinds := [.data, .data, .data], laidTests := true, laidLooks := .later }
def FnAllToldUptoCardSaid : Prop := Claim7.holds Tryz.pinned (.plain (OpenSpec.upto fnAllToldSpec)) fnAllToldUptoCard

/-- THE SECOND FORM's CARD OF 'laws.FnAllEnds'. -/
def fnAllEndsUptoCard : Claim7 := { stood := { row := fnAllEndsUptoRow, standIns := [], harness := (true, "ded24f2136c6976fe37118905f33aa67e4aa578417ca4b4534740c430345bf5d"), looks := false }, kinds := [], alts := [], laidByText := true, laidKinds := [.data, .data, .data], laidTests := true, laidLooks := .later }
def FnAllEndsUptoCardSaid : Prop := Claim7.holds Tryz.pinned (.plain (OpenSpec.upto fnAllEndsSpec)) fnAllEndsUptoCard

/-- THE SECOND FORM's CARD OF 'laws.FnAllAlone'. -/
def fnAllAloneUptoCard : Claim7 := { stood := { row := fnAllAloneUptoRow, standIns := [], harness := (true, "ded24f2136c6976fe37118905f33aa67e4aa578417ca4b4534740c430345bf5d"), looks := false }, kinds := [], alts := [], laidByText := true, laidKinds := [.data, .data, .data], laidTests := true, laidLooks := .later }
def FnAllAloneUptoCardSaid : Prop := Claim7.holds Tryz.pinned (.plain (OpenSpec.upto fnAllAloneSpec)) fnAllAloneUptoCard

/-- THE SECOND FORM's CARD OF 'laws.FnAllTurn'. -/
def fnAllTurnUptoCard : Claim7 := { stood := { row := fnAllTurnUptoRow, standIns := [], harness := (true, "ded24f2136c6976fe37118905f33aa67e4aa578417ca4b4534740c430345bf5d"), looks := false }, kinds := [], alts := [], laidByText := true, laidKinds := [.data, .data, .data], laidTests := true, laidLooks := .later }
def FnAllTurnUptoCardSaid : Prop := Claim7.holds Tryz.pinned (.plain (OpenSpec.upto fnAllTurnSpec)) fnAllTurnUptoCard
end Rows
end Go.Proofs.YtbecgghgcglafaaGreatDoor
