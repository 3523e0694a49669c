/-
  No cell of these rows narrows 'for every input' (looked for: loops, veiled, ifaces, maps, wideKeys, modest, calm, conditions, laid).
  DERIVED. THE GIVEN ROWS OF THIS SEAT. 6 by the template 'for every input the law returns true; each argument reads behind the call as it read before'; 0 by the template 'total and deterministic' (their statements: YtphbcboejmhaoaaGreatTotals.lean).
  GIVEN WITH THE SEED: the statements are not yours to turn. If you find one false, say at which input.
  Laid BY PROGRAM, IN A SANDBOX (cutbox-rows.mjs): the forced cells as the released guide's own fill.sh prints them over the translation 47d97096bb9839c0… (all of the seat's roots in one cut). By AI agents, Wed Nov 11 2026. No macro, syntax, notation, axiom, sorry.
-/
import Derived.Test.YtphbcboejmhaoaaGreatChecked
import GoSem.Claim
import GoSem.ClaimJoined
import GoSem.ClaimMapViews
import Derived.JoinedTies
import Derived.KernelRfl
namespace Go.Proofs.YtphbcboejmhaoaaGreat
/- THE CELL 'sum', in the pinned program and in every row, IS THE sha256 OF THE DUMP (.gsa) THAT YtphbcboejmhaoaaGreatProg.lean LOADS. Nothing in Lean hashes anything: it is a label: what it is worth is what the hold of that sum in a sandbox is worth. -/
noncomputable def Tryz.pinned : Pinned := { name := "ytphbcboejmhaoaagreat", sum := "47d97096bb9839c05c61cc657869e8026e4206199885eaa533a5237da9b7ca6f", checked := Tryz.checked }
namespace Rows
def none {H : Type} : Left H := { results := [], args := [] }

/-- 'laws.FnRaceAlone': WHATEVER THE INPUT: true; the input reads as it did. -/
def fnRaceAloneSpec : ChangeSpec := { name := "fnRaceAlone", fn := fun _ => fun
  | [d] => { results := [.lit (.bool true)], args := [d] }
  | _ => none }
def fnRaceAloneRow : OpenClaim := { program := "ytphbcboejmhaoaagreat", sum := "47d97096bb9839c05c61cc657869e8026e4206199885eaa533a5237da9b7ca6f", func := "loop.example/changeringer/laws.FnRaceAlone", spec := "fnRaceAlone", unfollowed := true, recurses := true, apart := false }
def FnRaceAloneSaid : Prop := fnRaceAloneRow.holds Tryz.pinned (OpenSpec.ofChange fnRaceAloneSpec)

/-- ITS FALSE NEIGHBOUR: 'it returns false'. Refute it at one input. -/
def fnRaceAloneWrong : ChangeSpec := { name := "fnRaceAlone", fn := fun _ => fun
  | [d] => { results := [.lit (.bool false)], args := [d] }
  | _ => none }
def FnRaceAloneWrongFalsely : Prop := fnRaceAloneRow.holds Tryz.pinned (OpenSpec.ofChange fnRaceAloneWrong)

/-- 'laws.FnRaceCut': WHATEVER THE INPUT: true; the input reads as it did. -/
def fnRaceCutSpec : ChangeSpec := { name := "fnRaceCut", fn := fun _ => fun
  | [d1, d2] => { results := [.lit (.bool true)], args := [d1, d2] }
  | _ => none }
def fnRaceCutRow : OpenClaim := { program := "ytphbcboejmhaoaagreat", sum := "47d97096bb9839c05c61cc657869e8026e4206199885eaa533a5237da9b7ca6f", func := "loop.example/changeringer/laws.FnRaceCut", spec := "fnRaceCut", unfollowed := true, recurses := true, apart := false }
def FnRaceCutSaid : Prop := fnRaceCutRow.holds Tryz.pinned (OpenSpec.ofChange fnRaceCutSpec)

/-- ITS FALSE NEIGHBOUR: 'it returns false'. Refute it at one input. -/
def fnRaceCutWrong : ChangeSpec := { name := "fnRaceCut", fn := fun _ => fun
  | [d1, d2] => { results := [.lit (.bool false)], args := [d1, d2] }
  | _ => none }
def FnRaceCutWrongFalsely : Prop := fnRaceCutRow.holds Tryz.pinned (OpenSpec.ofChange fnRaceCutWrong)

/-- 'laws.FnRaceFew': WHATEVER THE INPUT: true; the input reads as it did. -/
def fnRaceFewSpec : ChangeSpec := { name := "fnRaceFew", fn := fun _ => fun
  | [d] => { results := [.lit (.bool true)], args := [d] }
  | _ => none }
def fnRaceFewRow : OpenClaim := { program := "ytphbcboejmhaoaagreat", sum := "47d97096bb9839c05c61cc657869e8026e4206199885eaa533a5237da9b7ca6f", func := "loop.example/changeringer/laws.FnRaceFew", spec := "fnRaceFew", unfollowed := true, recurses := true, apart := false }
def FnRaceFewSaid : Prop := fnRaceFewRow.holds Tryz.pinned (OpenSpec.ofChange fnRaceFewSpec)

/-- ITS FALSE NEIGHBOUR: 'it returns false'. Refute it at one input. -/
def fnRaceFewWrong : ChangeSpec := { name := "fnRaceFew", fn := fun _ => fun
  | [d] => { results := [.lit (.bool false)], args := [d] }
  | _ => none }
def FnRaceFewWrongFalsely : Prop := fnRaceFewRow.holds Tryz.pinned (OpenSpec.ofChange fnRaceFewWrong)

/-- 'laws.FnRaces': WHATEVER THE INPUT: true; the input reads as it did. -/
def fnRacesSpec : ChangeSpec := { name := "fnRaces", fn := fun _ => fun
  | [d] => { results := [.lit (.bool true)], args := [d] }
  | _ => none }
def fnRacesRow : OpenClaim := { program := "ytphbcboejmhaoaagreat", sum := "47d97096bb9839c05c61cc657869e8026e4206199885eaa533a5237da9b7ca6f", func := "loop.example/changeringer/laws.FnRaces", spec := "fnRaces", unfollowed := true, recurses := true, apart := false }
def FnRacesSaid : Prop := fnRacesRow.holds Tryz.pinned (OpenSpec.ofChange fnRacesSpec)

/-- ITS FALSE NEIGHBOUR: 'it returns false'. Refute it at one input. -/
def fnRacesWrong : ChangeSpec := { name := "fnRaces", fn := fun _ => fun
  | [d] => { results := [.lit (.bool false)], args := [d] }
  | _ => none }
def FnRacesWrongFalsely : Prop := fnRacesRow.holds Tryz.pinned (OpenSpec.ofChange fnRacesWrong)

/-- 'laws.FnRaceTwo': WHATEVER THE INPUT: true; the input reads as it did. -/
def fnRaceTwoSpec : ChangeSpec := { name := "fnRaceTwo", fn := fun _ => fun
  | [d] => { results := [.lit (.bool true)], args := [d] }
  | _ => none }
def fnRaceTwoRow : OpenClaim := { program := "ytphbcboejmhaoaagreat", sum := "47d97096bb9839c05c61cc657869e8026e4206199885eaa533a5237da9b7ca6f", func := "loop.example/changeringer/laws.FnRaceTwo", spec := "fnRaceTwo", unfollowed := true, recurses := true, apart := false }
def FnRaceTwoSaid : Prop := fnRaceTwoRow.holds Tryz.pinned (OpenSpec.ofChange fnRaceTwoSpec)

/-- ITS FALSE NEIGHBOUR: 'it returns false'. Refute it at one input. -/
def fnRaceTwoWrong : ChangeSpec := { name := "fnRaceTwo", fn := fun _ => fun
  | [d] => { results := [.lit (.bool false)], args := [d] }
  | _ => none }
def FnRaceTwoWrongFalsely : Prop := fnRaceTwoRow.holds Tryz.pinned (OpenSpec.ofChange fnRaceTwoWrong)

/-- 'laws.FnClockOrder': WHATEVER THE INPUT: true; the input reads as it did. -/
def fnClockOrderSpec : ChangeSpec := { name := "fnClockOrder", fn := fun _ => fun
  | [d] => { results := [.lit (.bool true)], args := [d] }
  | _ => none }
def fnClockOrderRow : OpenClaim := { program := "ytphbcboejmhaoaagreat", sum := "47d97096bb9839c05c61cc657869e8026e4206199885eaa533a5237da9b7ca6f", func := "loop.example/changeringer/laws.FnClockOrder", spec := "fnClockOrder", unfollowed := true, recurses := true, apart := false }
def FnClockOrderSaid : Prop := fnClockOrderRow.holds Tryz.pinned (OpenSpec.ofChange fnClockOrderSpec)

/-- ITS FALSE NEIGHBOUR: 'it returns false'. Refute it at one input. -/
def fnClockOrderWrong : ChangeSpec := { name := "fnClockOrder", fn := fun _ => fun
  | [d] => { results := [.lit (.bool false)], args := [d] }
  | _ => none }
def FnClockOrderWrongFalsely : Prop := fnClockOrderRow.holds Tryz.pinned (OpenSpec.ofChange fnClockOrderWrong)

/- THE SECOND FORM. 'bulk': how many values and letters a reading holds, each counted each time it is reached (what is shared counts as often as it is met; a slice's spare places count too). A statement '..UptoSaid' is the law's where the arguments, and the package variables that the reading takes, are together of bulk at most 1048576: NARROWER than '..Said'. Prove '..Said' where nothing that the law and all that it calls make is longer than what came in: it says more and counts as full. Else prove '..UptoSaid'. A law counts once. -/
mutual
def uptoBulk {H : Type} : DataW H → Nat
  | .lit (.string bytes) => bytes.length + 1
  | .lit _ => 1
  | .nil => 1
  | .ptr d => uptoBulk d + 1
  | .slice elems spare => uptoBulkAll elems + uptoBulkAll spare + 1
  | .agg parts => uptoBulkAll parts + 1
  | .iface _ d => uptoBulk d + 1
  | .map entries => uptoBulkEntries entries + 1
  | .held _ => 1
def uptoBulkAll {H : Type} : List (DataW H) → Nat
  | [] => 0
  | d :: r => uptoBulk d + uptoBulkAll r
def uptoBulkEntries {H : Type} : List (Lit × DataW H) → Nat
  | [] => 0
  | x :: r => uptoBulkEntry x + uptoBulkEntries r
def uptoBulkEntry {H : Type} : Lit × DataW H → Nat
  | (.string bytes, d) => bytes.length + uptoBulk d + 1
  | (_, d) => uptoBulk d + 1
 end
def uptoSmall : (H : Type) → List (DataW H) → Bool := fun _ ds => decide (uptoBulkAll ds ≤ 1048576)
def OpenSpec.upto (s : _root_.Go.ChangeSpec) : _root_.Go.OpenSpec := { _root_.Go.OpenSpec.ofChange s with cond := some uptoSmall }

/-- 'laws.FnRaceAlone', WHERE WHAT IT READS IS OF BULK AT MOST 1048576: true; the input reads as it did. -/
def fnRaceAloneUptoRow : OpenClaim := { program := "ytphbcboejmhaoaagreat", sum := "47d97096bb9839c05c61cc657869e8026e4206199885eaa533a5237da9b7ca6f", func := "loop.example/changeringer/laws.FnRaceAlone", spec := "fnRaceAlone", unfollowed := true, recurses := true, apart := false, narrowed := true }
def FnRaceAloneUptoSaid : Prop := fnRaceAloneUptoRow.holds Tryz.pinned (OpenSpec.upto fnRaceAloneSpec)

/-- 'laws.FnRaceCut', WHERE WHAT IT READS IS OF BULK AT MOST 1048576: true; the input reads as it did. -/
def fnRaceCutUptoRow : OpenClaim := { program := "ytphbcboejmhaoaagreat", sum := "47d97096bb9839c05c61cc657869e8026e4206199885eaa533a5237da9b7ca6f", func := "loop.example/changeringer/laws.FnRaceCut", spec := "fnRaceCut", unfollowed := true, recurses := true, apart := false, narrowed := true }
def FnRaceCutUptoSaid : Prop := fnRaceCutUptoRow.holds Tryz.pinned (OpenSpec.upto fnRaceCutSpec)

/-- 'laws.FnRaceFew', WHERE WHAT IT READS IS OF BULK AT MOST 1048576: true; the input reads as it did. -/
def fnRaceFewUptoRow : OpenClaim := { program := "ytphbcboejmhaoaagreat", sum := "47d97096bb9839c05c61cc657869e8026e4206199885eaa533a5237da9b7ca6f", func := "loop.example/changeringer/laws.FnRaceFew", spec := "fnRaceFew", unfollowed := true, recurses := true, apart := false, narrowed := true }
def FnRaceFewUptoSaid : Prop := fnRaceFewUptoRow.holds Tryz.pinned (OpenSpec.upto fnRaceFewSpec)

/-- 'laws.FnRaces', WHERE WHAT IT READS IS OF BULK AT MOST 1048576: true; the input reads as it did. -/
def fnRacesUptoRow : OpenClaim := { program := "ytphbcboejmhaoaagreat", sum := "47d97096bb9839c05c61cc657869e8026e4206199885eaa533a5237da9b7ca6f", func := "loop.example/changeringer/laws.FnRaces", spec := "fnRaces", unfollowed := true, recurses := true, apart := false, narrowed := true }
def FnRacesUptoSaid : Prop := fnRacesUptoRow.holds Tryz.pinned (OpenSpec.upto fnRacesSpec)

/-- 'laws.FnRaceTwo', WHERE WHAT IT READS IS OF BULK AT MOST 1048576: true; the input reads as it did. -/
def fnRaceTwoUptoRow : OpenClaim := { program := "ytphbcboejmhaoaagreat", sum := "47d97096bb9839c05c61cc657869e8026e4206199885eaa533a5237da9b7ca6f", func := "loop.example/changeringer/laws.FnRaceTwo", spec := "fnRaceTwo", unfollowed := true, recurses := true, apart := false, narrowed := true }
def FnRaceTwoUptoSaid : Prop := fnRaceTwoUptoRow.holds Tryz.pinned (OpenSpec.upto fnRaceTwoSpec)

/-- 'laws.FnClockOrder', WHERE WHAT IT READS IS OF BULK AT MOST 1048576: true; the input reads as it did. -/
def fnClockOrderUptoRow : OpenClaim := { program := "ytphbcboejmhaoaagreat", sum := "47d97096bb9839c05c61cc657869e8026e4206199885eaa533a5237da9b7ca6f", func := "loop.example/changeringer/laws.FnClockOrder", spec := "fnClockOrder", unfollowed := true, recurses := true, apart := false, narrowed := true }
def FnClockOrderUptoSaid : Prop := fnClockOrderUptoRow.holds Tryz.pinned (OpenSpec.upto fnClockOrderSpec)

end Rows
end Go.Proofs.YtphbcboejmhaoaaGreat
