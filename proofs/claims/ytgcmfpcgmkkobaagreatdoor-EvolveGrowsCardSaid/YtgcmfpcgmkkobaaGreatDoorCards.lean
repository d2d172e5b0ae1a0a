/-
  DERIVED. GIVEN WITH THE SEED: THE CARDS: each row of YtgcmfpcgmkkobaaGreatDoorRows.lean that lists a variable, with what it lists TIED to the program's text (the seventh form; the later family's looks); each row that meets fmt, with fmt's text TOLD by the authors' own Lean function (tested against real Go, not proved from fmt's source: count such statements apart). THE CARD IS WHAT COUNTS. Prove the row's statement (the work); the ties are given (YtgcmfpcgmkkobaaGreatDoorTie.lean); close each card by the builder's one call (the guide's Derived/Test/ToyasCard.lean, 'card_holds'). Laid BY PROGRAM, IN A SANDBOX (cutbox-door.mjs). By AI agents, Wed Nov 11 2026. No macro, syntax, notation, axiom, sorry.
-/
import Derived.Test.YtgcmfpcgmkkobaaGreatDoorRows
import GoSem.ClaimSeven
namespace Go.Proofs.YtgcmfpcgmkkobaaGreatDoor
namespace Rows

/-- THE TIED CARD OF 'shredcollaw4.EvolveAgain'. -/
def evolveAgainCard : Claim7 := { stood := { row := evolveAgainRow, standIns := [], harness := (true, "207632d8d4c7a69dc833f3d2aad0413f3aff741736fee7736d2409f976ca23a5"), looks := true }, kinds := [], alts := [], laidByText := true, laidKinds := [.data, .data, .data, .data, .sentinel, .sentinel, .sentinel, .sentinel, .sentinel, .sentinel, .sentinel, .sentinel, .listed, .data, .widerDeep, .widerDeep, .pinned], laidTests := true, laidLooks := .later }
def EvolveAgainCardSaid : Prop := Claim7.holds Tryz.pinned (.plain (OpenSpec.ofChange evolveAgainSpec)) evolveAgainCard

/-- THE TIED CARD OF 'shredcollaw4.EvolveSame'. -/
def evolveSameCard : Claim7 := { stood := { row := evolveSameRow, standIns := [], harness := (true, "207632d8d4c7a69dc833f3d2aad0413f3aff741736fee7736d2409f976ca23a5"), looks := true }, kinds := [], alts := [], laidByText := true, laidKinds := [.data, .data, .data, .data, .sentinel, .sentinel, .sentinel, .sentinel, .sentinel, .sentinel, .sentinel, .sentinel, .listed, .data, .widerDeep, .widerDeep, .pinned], laidTests := true, laidLooks := .later }
def EvolveSameCardSaid : Prop := Claim7.holds Tryz.pinned (.plain (OpenSpec.ofChange evolveSameSpec)) evolveSameCard

/-- THE TIED CARD OF 'shredcollaw4.EvolveGrows'. -/
def evolveGrowsCard : Claim7 := { stood := { row := evolveGrowsRow, standIns := [], harness := (true, "207632d8d4c7a69dc833f3d2aad0413f3aff741736fee7736d2409f976ca23a5"), looks := true }, kinds := [], alts := [], laidByText := true, laidKinds := [.data, .data, .data, .data, .sentinel, .sentinel, .sentinel, .sentinel, .sentinel, .sentinel, .sentinel, .sentinel, .listed, .data, .widerDeep, .widerDeep, .pinned], laidTests := true, laidLooks := .later }
def EvolveGrowsCardSaid : Prop := Claim7.holds Tryz.pinned (.plain (OpenSpec.ofChange evolveGrowsSpec)) evolveGrowsCard

/-- THE TIED CARD OF 'shredcollaw4.EvolveReplays'. -/
def evolveReplaysCard : Claim7 := { stood := { row := evolveReplaysRow, standIns := [], harness := (true, "207632d8d4c7a69dc833f3d2aad0413f3aff741736fee7736d2409f976ca23a5"), looks := true }, kinds := [], alts := [], laidByText := true, laidKinds := [.data, .data, .data, .data, .handle, .sentinel, .sentinel, .sentinel, .sentinel, .sentinel, .sentinel, .sentinel, .sentinel, .sentinel, .sentinel, .listed, .data, .widerDeep, .widerDeep, .pinned], laidTests := true, laidLooks := .later }
def EvolveReplaysCardSaid : Prop := Claim7.holds Tryz.pinned (.plain (OpenSpec.ofChange evolveReplaysSpec)) evolveReplaysCard

/-- THE TIED CARD OF 'shredcollaw4.EvolveCarries'. -/
def evolveCarriesCard : Claim7 := { stood := { row := evolveCarriesRow, standIns := [], harness := (true, "207632d8d4c7a69dc833f3d2aad0413f3aff741736fee7736d2409f976ca23a5"), looks := true }, kinds := [], alts := [], laidByText := true, laidKinds := [.data, .data, .data, .data, .handle, .sentinel, .sentinel, .sentinel, .sentinel, .sentinel, .sentinel, .sentinel, .sentinel, .sentinel, .sentinel, .listed, .data, .widerDeep, .widerDeep, .pinned], laidTests := true, laidLooks := .later }
def EvolveCarriesCardSaid : Prop := Claim7.holds Tryz.pinned (.plain (OpenSpec.ofChange evolveCarriesSpec)) evolveCarriesCard

/-- THE SECOND FORM's CARD OF 'shredcollaw4.EvolveAgain'. -/
def evolveAgainUptoCard : Claim7 := { stood := { row := evolveAgainUptoRow, standIns := [], harness := (true, "207632d8d4c7a69dc833f3d2aad0413f3aff741736fee7736d2409f976ca23a5"), looks := true }, kinds := [], alts := [], laidByText := true, laidKinds := [.data, .data, .data, .data, .sentinel, .sentinel, .sentinel, .sentinel, .sentinel, .sentinel, .sentinel, .sentinel, .listed, .data, .widerDeep, .widerDeep, .pinned], laidTests := true, laidLooks := .later }
def EvolveAgainUptoCardSaid : Prop := Claim7.holds Tryz.pinned (.plain (OpenSpec.upto evolveAgainSpec)) evolveAgainUptoCard

/-- THE SECOND FORM's CARD OF 'shredcollaw4.EvolveSame'. -/
def evolveSameUptoCard : Claim7 := { stood := { row := evolveSameUptoRow, standIns := [], harness := (true, "207632d8d4c7a69dc833f3d2aad0413f3aff741736fee7736d2409f976ca23a5"), looks := true }, kinds := [], alts := [], laidByText := true, laidKinds := [.data, .data, .data, .data, .sentinel, .sentinel, .sentinel, .sentinel, .sentinel, .sentinel, .sentinel, .sentinel, .listed, .data, .widerDeep, .widerDeep, .pinned], laidTests := true, laidLooks := .later }
def EvolveSameUptoCardSaid : Prop := Claim7.holds Tryz.pinned (.plain (OpenSpec.upto evolveSameSpec)) evolveSameUptoCard

/-- THE SECOND FORM's CARD OF 'shredcollaw4.EvolveGrows'. -/
def evolveGrowsUptoCard : Claim7 := { stood := { row := evolveGrowsUptoRow, standIns := [], harness := (true, "207632d8d4c7a69dc833f3d2aad0413f3aff741736fee7736d2409f976ca23a5"), looks := true }, kinds := [], alts := [], laidByText := true, laidKinds := [.data, .data, .data, .data, .sentinel, .sentinel, .sentinel, .sentinel, .sentinel, .sentinel, .sentinel, .sentinel, .listed, .data, .widerDeep, .widerDeep, .pinned], laidTests := true, laidLooks := .later }
def EvolveGrowsUptoCardSaid : Prop := Claim7.holds Tryz.pinned (.plain (OpenSpec.upto evolveGrowsSpec)) evolveGrowsUptoCard

/-- THE SECOND FORM's CARD OF 'shredcollaw4.EvolveReplays'. -/
def evolveReplaysUptoCard : Claim7 := { stood := { row := evolveReplaysUptoRow, standIns := [], harness := (true, "207632d8d4c7a69dc833f3d2aad0413f3aff741736fee7736d2409f976ca23a5"), looks := true }, kinds := [], alts := [], laidByText := true, laidKinds := [.data, .data, .data, .data, .handle, .sentinel, .sentinel, .sentinel, .sentinel, .sentinel, .sentinel, .sentinel, .sentinel, .sentinel, .sentinel, .listed, .data, .widerDeep, .widerDeep, .pinned], laidTests := true, laidLooks := .later }
def EvolveReplaysUptoCardSaid : Prop := Claim7.holds Tryz.pinned (.plain (OpenSpec.upto evolveReplaysSpec)) evolveReplaysUptoCard

/-- THE SECOND FORM's CARD OF 'shredcollaw4.EvolveCarries'. -/
def evolveCarriesUptoCard : Claim7 := { stood := { row := evolveCarriesUptoRow, standIns := [], harness := (true, "207632d8d4c7a69dc833f3d2aad0413f3aff741736fee7736d2409f976ca23a5"), looks := true }, kinds := [], alts := [], laidByText := true, laidKinds := [.data, .data, .data, .data, .handle, .sentinel, .sentinel, .sentinel, .sentinel, .sentinel, .sentinel, .sentinel, .sentinel, .sentinel, .sentinel, .listed, .data, .widerDeep, .widerDeep, .pinned], laidTests := true, laidLooks := .later }
def EvolveCarriesUptoCardSaid : Prop := Claim7.holds Tryz.pinned (.plain (OpenSpec.upto evolveCarriesSpec)) evolveCarriesUptoCard
end Rows
end Go.Proofs.YtgcmfpcgmkkobaaGreatDoor
