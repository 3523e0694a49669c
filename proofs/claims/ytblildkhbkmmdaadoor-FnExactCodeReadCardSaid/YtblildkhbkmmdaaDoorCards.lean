/-
  DERIVED. GIVEN WITH THE SEED: THE CARDS: each row of YtblildkhbkmmdaaDoorRows.lean that lists a variable, with what it lists TIED to the program's text (the seventh form; the later family's looks); each row that meets fmt, with fmt's text TOLD by the authors' own Lean function (tested against real Go, not proved from fmt's source: count such statements apart). THE CARD IS WHAT COUNTS. Prove the row's statement (the work); the ties are given (YtblildkhbkmmdaaDoorTie.lean); close each card by the builder's one call (the guide's Derived/Test/ToyasCard.lean, 'card_holds'). Laid BY PROGRAM, IN A SANDBOX (cutbox-door.mjs). By AI agents, Wed Nov 11 2026. No macro, syntax, notation, axiom, sorry.
-/
import Derived.Test.YtblildkhbkmmdaaDoorRows
import GoSem.ClaimSeven
namespace Go.Proofs.YtblildkhbkmmdaaDoor
namespace Rows

/-- THE TIED CARD OF 'laws.FnExactCodeRead'. -/
def fnExactCodeReadCard : Claim7 := { stood := { row := fnExactCodeReadRow, standIns := [], harness := (true, "34ba82bc424d3035376938d2048ecca1f8f9e4f12ef442ac2174cf3b0fe514ff"), looks := true }, kinds := [], alts := [], laidByText := true, laidKinds := [.data, .data, .data, .data, .sentinel, .sentinel, .pinned], laidTests := true, laidLooks := .later }
def FnExactCodeReadCardSaid : Prop := Claim7.holds Tryd.pinned (.plain (OpenSpec.ofChange fnExactCodeReadSpec)) fnExactCodeReadCard

/-- THE SECOND FORM's CARD OF 'laws.FnExactCodeRead'. -/
def fnExactCodeReadUptoCard : Claim7 := { stood := { row := fnExactCodeReadUptoRow, standIns := [], harness := (true, "34ba82bc424d3035376938d2048ecca1f8f9e4f12ef442ac2174cf3b0fe514ff"), looks := true }, kinds := [], alts := [], laidByText := true, laidKinds := [.data, .data, .data, .data, .sentinel, .sentinel, .pinned], laidTests := true, laidLooks := .later }
def FnExactCodeReadUptoCardSaid : Prop := Claim7.holds Tryd.pinned (.plain (OpenSpec.upto fnExactCodeReadSpec)) fnExactCodeReadUptoCard
end Rows
end Go.Proofs.YtblildkhbkmmdaaDoor
