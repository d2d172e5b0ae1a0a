/-
  What the row's list gives at seat E: the package's variables and one more table; and a world that meets the list.
-/
import Derived.Test.YtgcmfpcgmkkobaaGreatDoorCards
import Derived.Test.YtgcmfpcgmkkobaaGreatDoorProg
import Derived.Test.YtgcmfpcgmkkobaaGreatDoorPackE
import Derived.Test.YtgcmfpcgmkkobaaGreatDoorLogNode
import Derived.Lay
import Derived.ProofKit
import Derived.OpenShut
import Derived.LaidLaws
set_option linter.unusedVariables false
set_option linter.unusedSimpArgs false
namespace Go.Proofs.YtgcmfpcgmkkobaaGreatDoor
open Go.ChangeShapes Go.WideShapes Go.RowKit

abbrev lay0 : List (String × DataW Unit) := Rows.evolveSameRow.laid
theorem lists : Lists lay0 where
  b := ⟨_, List.mem_of_getElem? (i := 5) rfl⟩
  t := ⟨_, List.mem_of_getElem? (i := 4) rfl⟩
  s := ⟨_, List.mem_of_getElem? (i := 6) rfl⟩
  n := ⟨_, List.mem_of_getElem? (i := 8) rfl⟩
  y := ⟨_, List.mem_of_getElem? (i := 11) rfl⟩
  r := ⟨_, List.mem_of_getElem? (i := 10) rfl⟩
  reps := List.mem_of_getElem? (i := 14) rfl
  kinds := List.mem_of_getElem? (i := 15) rfl
  pow := List.mem_of_getElem? (i := 2) rfl
theorem asciiIn : ("strings.asciiSpace", Lib.tabData .u8 Lib.asciiSpaceTab) ∈ lay0 := List.mem_of_getElem? (i := 13) (by kernel_rfl)
theorem maxLen_of {W : World} (h : W.ShapedOpen Tryz.prog) : ∃ m, W.cell? ⟨11, 0, none⟩ = some (.int .i64 m) := Tryz.laysM146.s1_3 W h
theorem space_of {W : World} (hL : laidMetH Tryz.prog lay0 W) : Lib.TabIs Tryz.prog W "strings.asciiSpace" .u8 Lib.asciiSpaceTab := by
  obtain ⟨ps, hV, _⟩ := hL
  exact laid_tab hV asciiIn ascii_at (t := 224) (e := 5) (by kernel_rfl) Tryz.underlying224 Tryz.underlying5 (by kernel_rfl) (by kernel_rfl)
theorem all_of {W : World} (hL : laidMetH Tryz.prog lay0 W) : ∃ (_ : Unit) (E : Er → Value) (_ : Unit), Glo W.heap.size E W ∧ Lib.TabIs Tryz.prog W "strings.asciiSpace" .u8 Lib.asciiSpaceTab ∧ True := by
  obtain ⟨E, hG⟩ := glo_of lists hL
  exact ⟨(), E, (), hG, space_of hL, True.intro⟩
noncomputable def laidWorld (os : Os) : World := World.laidAll Tryz.prog os lay0
theorem laidWorld_os (os : Os) : (laidWorld os).os = os := World.laidAll_os _ _ _
theorem laidWorld_met (os : Os) (args : Array Value) : laidMetH Tryz.prog lay0 ((laidWorld os).forCall (fun _ _ => 0) ⟨#[], args, []⟩).memory :=
  laidMet_laidAll args (by kernel_rfl) (by kernel_rfl)
end Go.Proofs.YtgcmfpcgmkkobaaGreatDoor
