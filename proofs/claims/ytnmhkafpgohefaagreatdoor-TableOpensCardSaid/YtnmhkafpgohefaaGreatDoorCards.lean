/-
  DERIVED. GIVEN WITH THE SEED: THE CARDS: each row of YtnmhkafpgohefaaGreatDoorRows.lean that lists a variable, with what it lists TIED to the program's text (the seventh form; the later family's looks); each row that meets fmt, with fmt's text TOLD by the authors' own Lean function (tested against real Go, not proved from fmt's source: count such statements apart). THE CARD IS WHAT COUNTS. Prove the row's statement (the work); the ties are given (YtnmhkafpgohefaaGreatDoorTie.lean); close each card by the builder's one call (the guide's Derived/Test/ToyasCard.lean, 'card_holds'). Laid BY PROGRAM, IN A SANDBOX (cutbox-door.mjs). By AI agents, Wed Nov 11 2026. No macro, syntax, notation, axiom, sorry.
-/
import Derived.Test.YtnmhkafpgohefaaGreatDoorRows
import GoSem.ClaimSeven
namespace Go.Proofs.YtnmhkafpgohefaaGreatDoor
namespace Rows

/-- THE TIED CARD OF 'shredcollaw4.TableOpens'. -/
def tableOpensCard : Claim7 := { stood := { row := tableOpensRow, standIns := [], harness := (true, "4fb5b3aa295e6d7e28a4e37b9e27808b6a53ff9419f19204ca45963c2f100640"), looks := true }, kinds := [], alts := [], laidByText := true, laidKinds := [.data, .data, .data, .data, .handle, .sentinel, .sentinel, .sentinel, .sentinel, .sentinel, .sentinel, .sentinel, .sentinel, .sentinel, .sentinel, .listed, .data, .widerDeep, .widerDeep, .pinned], laidTests := true, laidLooks := .later }
def TableOpensCardSaid : Prop := Claim7.holds Tryz.pinned (.plain (OpenSpec.ofChange tableOpensSpec)) tableOpensCard

/-- THE SECOND FORM's CARD OF 'shredcollaw4.TableOpens'. -/
def tableOpensUptoCard : Claim7 := { stood := { row := tableOpensUptoRow, standIns := [], harness := (true, "4fb5b3aa295e6d7e28a4e37b9e27808b6a53ff9419f19204ca45963c2f100640"), looks := true }, kinds := [], alts := [], laidByText := true, laidKinds := [.data, .data, .data, .data, .handle, .sentinel, .sentinel, .sentinel, .sentinel, .sentinel, .sentinel, .sentinel, .sentinel, .sentinel, .sentinel, .listed, .data, .widerDeep, .widerDeep, .pinned], laidTests := true, laidLooks := .later }
def TableOpensUptoCardSaid : Prop := Claim7.holds Tryz.pinned (.plain (OpenSpec.upto tableOpensSpec)) tableOpensUptoCard
end Rows
end Go.Proofs.YtnmhkafpgohefaaGreatDoor
