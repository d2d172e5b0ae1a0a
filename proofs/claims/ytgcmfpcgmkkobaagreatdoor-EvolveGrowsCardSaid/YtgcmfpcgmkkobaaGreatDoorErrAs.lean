/-
  errors.As at a target of type **api.Fault: an error of errors.New's make is none; an api.Fault is one.
-/
import Derived.Test.YtgcmfpcgmkkobaaGreatDoorProg
import Derived.Test.YtgcmfpcgmkkobaaGreatDoorNode
import Derived.LaidEql
import Derived.Stop.Asserts
import Derived.RowKitTokens
set_option linter.unusedVariables false
set_option linter.unusedSimpArgs false
namespace Go.Proofs.YtgcmfpcgmkkobaaGreatDoor
open Go.RowKit Go.Extern.Stop Go.Stop Go.Extern
abbrev hP : Value := .pointer (some ⟨22, 66, none⟩)
abbrev hE : Value := .pointer (some ⟨22, 246, none⟩)
abbrev hI : Value := .pointer (some ⟨22, 30, none⟩)
end Go.Proofs.YtgcmfpcgmkkobaaGreatDoor
