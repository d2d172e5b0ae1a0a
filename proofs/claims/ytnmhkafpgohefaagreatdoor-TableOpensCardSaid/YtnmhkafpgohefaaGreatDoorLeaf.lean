/-
  schema.Find: the first node with an ID, of a right schema.; shredcollaw2.leaf: the law's closed fact.
-/
import Derived.Test.YtnmhkafpgohefaaGreatDoorWalk
import Derived.Test.YtnmhkafpgohefaaGreatDoorValid
import Derived.Test.YtnmhkafpgohefaaGreatDoorRead
import Derived.Test.YtnmhkafpgohefaaGreatDoorTwiceP
import Derived.Test.YtnmhkafpgohefaaGreatDoorTreeMore
set_option linter.unusedVariables false
set_option linter.unusedSimpArgs false
namespace Go.Proofs.YtnmhkafpgohefaaGreatDoor
open Go.RowKit
structure Non (w : World) (N : Value) : Prop where
 cell : w.cell? ⟨1, 0, none⟩ = some N
 form : ∃ T v, N = .iface T v
theorem Non.keep0 {w w' : World} {N : Value} (h : Non w N) (hc : Chg NoB w w') : Non w' N :=
 ⟨(hc.cell (lt_of_cell h.cell) nbE).trans h.cell, h.form⟩
theorem Glo.up {B B' : Nat} {E : Er → Value} {w : World} (h : Glo B E w) (hB : B ≤ B') : Glo B' E w :=
 ⟨h.errs, h.tabs.up hB, h.syn, h.ran, ⟨fun e => by have := h.below.1 e; omega, by have := h.below.2.1; omega, by have := h.below.2.2; omega⟩⟩
end Go.Proofs.YtnmhkafpgohefaaGreatDoor
