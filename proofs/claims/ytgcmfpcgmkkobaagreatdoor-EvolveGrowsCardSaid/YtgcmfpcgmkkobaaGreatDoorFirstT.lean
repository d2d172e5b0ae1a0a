/-
  shredcollaw4's first, by the law on Replay.
-/
import Derived.Test.YtgcmfpcgmkkobaaGreatDoorReplayT
import Derived.Test.YtgcmfpcgmkkobaaGreatDoorLayG
set_option linter.unusedVariables false
set_option maxHeartbeats 20000000
set_option maxRecDepth 100000
set_option linter.unusedSimpArgs false
namespace Go.Proofs.YtgcmfpcgmkkobaaGreatDoor
open Go.RowKit
def firstB : ByteArray := ⟨#[97, 100, 100, 32, 48, 32, 114, 101, 113, 117, 105, 114, 101, 100, 32, 105, 110, 116, 32, 97, 59]⟩
def oneB : ByteArray := ⟨#[97]⟩
theorem first_line : firstB = lineA oneB := rfl
theorem first_rep : replayF [firstB] = .ok [.mk 1 oneB 1 2 []] 2 := by
 have hn : isNameB oneB = true := by decide
 have hw := words_A oneB
 have he : editW (wordsB firstB) [] 1 = .ok [.mk 1 oneB 1 2 []] 2 := by
  rw [first_line, hw]
  simp only [editW]
  rw [if_pos (by simp)]
  unfold addF
  rw [numF_zero]
  dsimp only
  rw [add_leaf (a := bAdd) (b := bAdd) (by decide) (by decide) hw hn]
  rfl
 unfold replayF
 rw [if_neg (by simp)]
 exact replay_step (l' := [.mk 1 oneB 1 2 []]) (nx' := 2) ⟨he, .inr (fit_leaf (by decide) (by decide) hn (by decide))⟩
theorem first_any (w : World) (E : Er → Value) (N K : Value) (m : Int) (hG : EvG w.heap.size E N K m w) : Calls Tryz.prog 8 #[] w (RetV (.bool true) w) := by
 go_enter Tryz.func8, Tryz.ntmps8
 go_wp2_with fail
 generalize hw1 : w.alloc _ = w1
 have hc1 : Chg NoB w w1 := by
  rw [← hw1]
  repeat (first | exact Chg.refl _ _ | apply Chg.alloc | apply Chg.drew)
 have hb1 : Blk w1 (w.heap.size) ([.string firstB]) 9 := by
  rw [← hw1]
  repeat (first | exact Blk.newAt (by first | rfl | (simp; done) | (simp; omega)) | apply Blk.alloc | apply Blk.drew)
 clear hw1
 have hl1 := hb1.lt
 have h := replay_any [firstB] (.slice (some ⟨w.heap.size, 0, none⟩) 1 1) w1 (fun b => b < w1.heap.size) E N K m ((hG.keep0 hc1).up hc1.size) ⟨some ⟨w.heap.size, 0, none⟩, 1, rfl, by decide, by decide, .inr ⟨w.heap.size, 0, rfl, hl1, hl1, ⟨[.string firstB], rfl, fun j c hj => by
  match j, hj with
  | 0, hj => obtain rfl := Option.some.inj hj; exact hb1.cell 0, rfl, rfl⟩, True.intro⟩⟩ (by simp [firstB, ByteArray.size])
 rw [first_rep] at h
 refine h.mono ?_
 clear h
 rintro en w2 ⟨hc2, v2, F, rfl, ht, _⟩
 rcases ht with ⟨h0, _⟩ | ⟨g, cap, cur, F', rfl, e2, e3, e4, e5, e6, e7, _⟩
 ·cases h0
 obtain ⟨c, r, F1, F2, rfl, h2, _, _⟩ := trC_cons.1 e7
 obtain ⟨v3, rfl, _⟩ := trN.1 h2
 have c0 : w2.cell? ⟨g, 0, none⟩ = some (.int .i64 1) := e5.cell 0
 have hl2 := e5.lt
 simp only [List.length_cons, List.length_nil, Nat.zero_add]
 go_wp2_with fail
 go_ret
 exact ⟨rfl, (hc1.tr hc2).alloc _⟩
end Go.Proofs.YtgcmfpcgmkkobaaGreatDoor
