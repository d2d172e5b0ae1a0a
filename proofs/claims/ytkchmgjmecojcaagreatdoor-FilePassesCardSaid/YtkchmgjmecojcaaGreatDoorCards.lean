/-
  DERIVED. GIVEN WITH THE SEED: THE CARDS: each row of YtkchmgjmecojcaaGreatDoorRows.lean that lists a variable, with what it lists TIED to the program's text (the seventh form; the later family's looks); each row that meets fmt, with fmt's text TOLD by the authors' own Lean function (tested against real Go, not proved from fmt's source: count such statements apart). THE CARD IS WHAT COUNTS. Prove the row's statement (the work); the ties are given (YtkchmgjmecojcaaGreatDoorTie.lean); close each card by the builder's one call (the guide's Derived/Test/ToyasCard.lean, 'card_holds'). Laid BY PROGRAM, IN A SANDBOX (cutbox-door.mjs). By AI agents, Wed Nov 11 2026. No macro, syntax, notation, axiom, sorry.
-/
import Derived.Test.YtkchmgjmecojcaaGreatDoorRows
import GoSem.ClaimSeven
namespace Go.Proofs.YtkchmgjmecojcaaGreatDoor
namespace Rows

/-- THE TIED CARD OF 'shredcollaw3.FilePasses'. -/
def filePassesCard : Claim7 := { stood := { row := filePassesRow, standIns := [], harness := (true, "042f4450d5032cf3b7236dff24c2c3bb114a7f13fdc1d4ea9197b1e177a8646c"), looks := true }, kinds := [], alts := [], laidByText := true, laidKinds := [.data, .data, .data, .data, .handle, .sentinel, .sentinel, .sentinel, .sentinel, .sentinel, .sentinel, .sentinel, .sentinel, .sentinel, .sentinel, .widerDeep, .widerDeep, .pinned], laidTests := true, laidLooks := .later }
def FilePassesCardSaid : Prop := Claim7.holds Tryz.pinned (.plain (OpenSpec.ofChange filePassesSpec)) filePassesCard

/-- THE SECOND FORM's CARD OF 'shredcollaw3.FilePasses'. -/
def filePassesUptoCard : Claim7 := { stood := { row := filePassesUptoRow, standIns := [], harness := (true, "042f4450d5032cf3b7236dff24c2c3bb114a7f13fdc1d4ea9197b1e177a8646c"), looks := true }, kinds := [], alts := [], laidByText := true, laidKinds := [.data, .data, .data, .data, .handle, .sentinel, .sentinel, .sentinel, .sentinel, .sentinel, .sentinel, .sentinel, .sentinel, .sentinel, .sentinel, .widerDeep, .widerDeep, .pinned], laidTests := true, laidLooks := .later }
def FilePassesUptoCardSaid : Prop := Claim7.holds Tryz.pinned (.plain (OpenSpec.upto filePassesSpec)) filePassesUptoCard
end Rows
end Go.Proofs.YtkchmgjmecojcaaGreatDoor
