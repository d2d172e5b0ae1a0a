/-
  DERIVED. GIVEN WITH THE SEED: THE CARDS: each row of YtfbbfhhhfbibjaaDoorRows.lean that lists a variable, with what it lists TIED to the program's text (the seventh form; the later family's looks); each row that meets fmt, with fmt's text TOLD by the authors' own Lean function (tested against real Go, not proved from fmt's source: count such statements apart). THE CARD IS WHAT COUNTS. Prove the row's statement (the work); the ties are given (YtfbbfhhhfbibjaaDoorTie.lean); close each card by the builder's one call (the guide's Derived/Test/ToyasCard.lean, 'card_holds'). Laid BY PROGRAM, IN A SANDBOX (cutbox-door.mjs). By AI agents, Wed Nov 11 2026. No macro, syntax, notation, axiom, sorry.
-/
import Derived.Test.YtfbbfhhhfbibjaaDoorRows
import GoSem.ClaimSeven
namespace Go.Proofs.YtfbbfhhhfbibjaaDoor
namespace Rows

/-- THE TIED CARD OF 'shredcollaw2.SchemaTwice'. -/
def schemaTwiceCard : Claim7 := { stood := { row := schemaTwiceRow, standIns := [], harness := (true, "457544714191e511f79c5f4df391231e7bd34ff2661c7ca12b2948fb84332065"), looks := true }, kinds := [], alts := [], laidByText := true, laidKinds := [.data, .data, .data, .data, .sentinel, .sentinel, .sentinel, .sentinel, .sentinel, .sentinel, .widerDeep, .widerDeep, .pinned], laidTests := true, laidLooks := .later }
def SchemaTwiceCardSaid : Prop := Claim7.holds Tryd.pinned (.plain (OpenSpec.ofChange schemaTwiceSpec)) schemaTwiceCard

/-- THE TIED CARD OF 'shredcollaw2.SchemaNests'. -/
def schemaNestsCard : Claim7 := { stood := { row := schemaNestsRow, standIns := [], harness := (true, "457544714191e511f79c5f4df391231e7bd34ff2661c7ca12b2948fb84332065"), looks := true }, kinds := [], alts := [], laidByText := true, laidKinds := [.data, .data, .data, .data, .sentinel, .sentinel, .sentinel, .sentinel, .sentinel, .sentinel, .sentinel, .widerDeep, .widerDeep, .pinned], laidTests := true, laidLooks := .later }
def SchemaNestsCardSaid : Prop := Claim7.holds Tryd.pinned (.plain (OpenSpec.ofChange schemaNestsSpec)) schemaNestsCard

/-- THE SECOND FORM's CARD OF 'shredcollaw2.SchemaTwice'. -/
def schemaTwiceUptoCard : Claim7 := { stood := { row := schemaTwiceUptoRow, standIns := [], harness := (true, "457544714191e511f79c5f4df391231e7bd34ff2661c7ca12b2948fb84332065"), looks := true }, kinds := [], alts := [], laidByText := true, laidKinds := [.data, .data, .data, .data, .sentinel, .sentinel, .sentinel, .sentinel, .sentinel, .sentinel, .widerDeep, .widerDeep, .pinned], laidTests := true, laidLooks := .later }
def SchemaTwiceUptoCardSaid : Prop := Claim7.holds Tryd.pinned (.plain (OpenSpec.upto schemaTwiceSpec)) schemaTwiceUptoCard

/-- THE SECOND FORM's CARD OF 'shredcollaw2.SchemaNests'. -/
def schemaNestsUptoCard : Claim7 := { stood := { row := schemaNestsUptoRow, standIns := [], harness := (true, "457544714191e511f79c5f4df391231e7bd34ff2661c7ca12b2948fb84332065"), looks := true }, kinds := [], alts := [], laidByText := true, laidKinds := [.data, .data, .data, .data, .sentinel, .sentinel, .sentinel, .sentinel, .sentinel, .sentinel, .sentinel, .widerDeep, .widerDeep, .pinned], laidTests := true, laidLooks := .later }
def SchemaNestsUptoCardSaid : Prop := Claim7.holds Tryd.pinned (.plain (OpenSpec.upto schemaNestsSpec)) schemaNestsUptoCard
end Rows
end Go.Proofs.YtfbbfhhhfbibjaaDoor
