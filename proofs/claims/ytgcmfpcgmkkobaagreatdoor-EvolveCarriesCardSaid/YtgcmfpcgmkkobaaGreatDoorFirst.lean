/-
 shredcollaw4's first: the edits of evolve go, at least one.
-/
import Derived.Test.YtgcmfpcgmkkobaaGreatDoorReplayE
set_option linter.unusedVariables false
set_option linter.unusedSimpArgs false
namespace Go.Proofs.YtgcmfpcgmkkobaaGreatDoor
open Go.RowKit

set_option maxHeartbeats 2000000 in
set_option maxRecDepth 100000 in
theorem first_yes (m : Int) (w : World) (E : Er → Value) (hG : Glo w.heap.size E w) (hm : w.cell? ⟨11, 0, none⟩ = some (.int .i64 m))
  (htab : Lib.TabIs Tryz.prog w "strings.asciiSpace" .u8 Lib.asciiSpaceTab) :
  Calls Tryz.prog 8 #[] w (RetV (.bool true) w) := by
 have hml := lt_of_cell hm
 go_enter Tryz.func8, Tryz.ntmps8
 go_wp2_with fail
 generalize hw1 : w.alloc _ = w1
 have hc1 : Chg NoB w w1 := by
  rw [← hw1]
  repeat (first | exact Chg.refl _ _ | apply Chg.alloc | apply Chg.drew)
 have hb1 : Blk w1 (w.heap.size) ([.string editB]) 9 := by
  rw [← hw1]
  repeat (first | exact Blk.newAt (by first | rfl | (simp; done) | (simp; omega)) | apply Blk.alloc | apply Blk.drew)
 clear hw1
 refine (replay_first w.heap.size m w1 E ((hG.keep0 hc1).up hc1.size) (hb1.cell 0) ((hc1.cell hml NoB.elim).trans hm) (tab_ascii htab hc1)).mono ?_
 rintro en w2 ⟨sb, cp, rfl, h1, c0, hsb, hc2⟩
 go_wp2_with fail
 go_ret
 exact ⟨rfl, (hc1.tr hc2).alloc _⟩
end Go.Proofs.YtgcmfpcgmkkobaaGreatDoor
