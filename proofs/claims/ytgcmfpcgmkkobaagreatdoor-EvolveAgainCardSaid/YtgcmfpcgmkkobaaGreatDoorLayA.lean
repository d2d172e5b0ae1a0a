/-
 What the list of EvolveAgain's row gives: evolve's surroundings; a world that meets the list.
-/
import Derived.Test.YtgcmfpcgmkkobaaGreatDoorCards
import Derived.Test.YtgcmfpcgmkkobaaGreatDoorProg
import Derived.Test.YtgcmfpcgmkkobaaGreatDoorPackE
import Derived.Test.YtgcmfpcgmkkobaaGreatDoorAddT
import Derived.Lay
import Derived.ProofKit
import Derived.OpenShut
import Derived.LaidLaws
set_option linter.unusedVariables false
set_option linter.unusedSimpArgs false
namespace Go.Proofs.YtgcmfpcgmkkobaaGreatDoor
open Go.ChangeShapes Go.WideShapes Go.RowKit

abbrev lay0 : List (String × DataW Unit) := Rows.evolveAgainRow.laid
theorem lists : Lists lay0 where
 b := ⟨_, List.mem_of_getElem? (i := 5) rfl⟩
 t := ⟨_, List.mem_of_getElem? (i := 4) rfl⟩
 s := ⟨_, List.mem_of_getElem? (i := 6) rfl⟩
 n := ⟨_, List.mem_of_getElem? (i := 8) rfl⟩
 y := ⟨_, List.mem_of_getElem? (i := 11) rfl⟩
 r := ⟨_, List.mem_of_getElem? (i := 10) rfl⟩
 reps := List.mem_of_getElem? (i := 14) rfl
 kinds := List.mem_of_getElem? (i := 15) rfl
 pow := List.mem_of_getElem? (i := 2) rfl
theorem asciiIn : ("strings.asciiSpace", Lib.tabData .u8 Lib.asciiSpaceTab) ∈ lay0 := List.mem_of_getElem? (i := 13) (by kernel_rfl)
theorem maxLen_of {W : World} (h : W.ShapedOpen Tryz.prog) : ∃ m, W.cell? ⟨11, 0, none⟩ = some (.int .i64 m) := Tryz.laysM146.s1_3 W h
theorem space_of {W : World} (hL : laidMetH Tryz.prog lay0 W) : Lib.TabIs Tryz.prog W "strings.asciiSpace" .u8 Lib.asciiSpaceTab := by
 obtain ⟨ps, hV, _⟩ := hL
 exact laid_tab hV asciiIn ascii_at (t := 224) (e := 5) (by kernel_rfl) Tryz.underlying224 Tryz.underlying5 (by kernel_rfl) (by kernel_rfl)
theorem gNon : Tryz.prog.globalNamed "shredcol/api.ErrNone" = some 3 := by kernel_rfl
theorem gKnd : Tryz.prog.globalNamed "shredcol/api.ErrKind" = some 1 := by kernel_rfl
theorem ascii_lt {w : World} (h : Lib.TabIs Tryz.prog w "strings.asciiSpace" .u8 Lib.asciiSpaceTab) : 12 < w.heap.size := by
 unfold Lib.TabIs World.var? at h
 rw [ascii_at] at h
 simp only [Option.bind_some] at h
 cases hb : w.heap[12]? with
 | none => rw [hb] at h; simp at h
 | some o => exact lt_of_block hb
theorem all_of {W : World} (hL : laidMetH Tryz.prog lay0 W) : ∃ (K : Value) (E : Er → Value) (N : Value), Glo W.heap.size E W ∧ (∀ m, W.cell? ⟨11, 0, none⟩ = some (.int .i64 m) → EvG W.heap.size E N K m W) ∧ True := by
 obtain ⟨E, hG⟩ := glo_of lists hL
 have hL2 := hL
 obtain ⟨ps, hV, _⟩ := hL2
 obtain ⟨Tn, vn, hn⟩ := laid_iface hV (n := "shredcol/api.ErrNone") (List.mem_of_getElem? (i := 9) rfl) gNon (by kernel_rfl) Tryz.underlying30
 obtain ⟨Tk, vk, hk⟩ := laid_iface hV (n := "shredcol/api.ErrKind") (List.mem_of_getElem? (i := 7) rfl) gKnd (by kernel_rfl) Tryz.underlying30
 refine ⟨.iface Tk vk, E, .iface Tn vn, hG, fun m hm => ⟨hG, hn, hk, hm, space_of hL, ⟨lt_of_cell hn, lt_of_cell hk, lt_of_cell hm, ascii_lt (space_of hL)⟩, ⟨_, _, rfl⟩, ⟨_, _, rfl⟩⟩, True.intro⟩
noncomputable def laidWorld (os : Os) : World := World.laidAll Tryz.prog os lay0
theorem laidWorld_os (os : Os) : (laidWorld os).os = os := World.laidAll_os _ _ _
theorem laidWorld_met (os : Os) (args : Array Value) : laidMetH Tryz.prog lay0 ((laidWorld os).forCall (fun _ _ => 0) ⟨#[], args, []⟩).memory :=
 laidMet_laidAll args (by kernel_rfl) (by kernel_rfl)
end Go.Proofs.YtgcmfpcgmkkobaaGreatDoor
