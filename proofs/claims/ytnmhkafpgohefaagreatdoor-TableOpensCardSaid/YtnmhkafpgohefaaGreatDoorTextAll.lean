/-
  schema.Text.
-/
import Derived.Test.YtnmhkafpgohefaaGreatDoorText
set_option linter.unusedVariables false
set_option maxHeartbeats 20000000
set_option maxRecDepth 100000
set_option linter.unusedSimpArgs false
namespace Go.Proofs.YtnmhkafpgohefaaGreatDoor
open Go.RowKit
theorem Tabs.up {B B' : Nat} {w : World} (h : Tabs B w) (hB : B ≤ B') : Tabs B' w :=
 ⟨⟨by have := h.below.1; omega, by have := h.below.2.1; omega, by have := h.below.2.2; omega⟩, h.reps, h.kinds, h.pow⟩
def RetSE (E : Er → Value) (s : List UInt8) (r : Option Er) (w : World) (en : Ending) (w' : World) : Prop := en = .returned (.tuple #[.string ⟨s.toArray⟩, errVal E r]) ∧ Chg NoB w w'
def textF (nd : Nd) : List UInt8 := if validF nd = none then textL nd.sub [] else []
theorem text_any (nd : Nd) (w : World) (S : Nat → Prop) (cs : List Value) (E : Er → Value) (hE : Errs w E) (hT : Tabs w.heap.size w) (hok : nd.ok) (hr : Reads w S nd.dt cs) (hSB : ∀ b, S b → b < w.heap.size)
  (hgood : validF nd = none → Nd.fines nd.sub ∧ (textL nd.sub []).length ≤ 140737488355328) :
  Calls Tryz.prog 128 #[.agg cs.toArray] w (RetSE E (textF nd) (validF nd) w) := by
 have he := enters_of Tryz.func153 (P := Tryz.prog) (by kernel_rfl) rfl
 have hform := hE.form
 obtain ⟨i, nm, r, k, sb⟩ := nd
 obtain ⟨sv, rfl, hs⟩ := reads_nd.1 hr
 obtain ⟨sa, cap, rfl, hlen, hcap, hel⟩ := reads_subs hs
 go_enter Tryz.func128, Tryz.ntmps128
 go_wp2_with fail
 generalize hw1 : w.alloc _ = w1
 have hc1 : Chg NoB w w1 := by
  rw [← hw1]
  repeat (first | exact Chg.refl _ _ | apply Chg.alloc | apply Chg.drew)
 have hb1 : Blk w1 (w.heap.size) (ndCells i nm r k (.slice sa sb.length cap)) 56 := by
  rw [← hw1]
  repeat (first | exact Blk.newAt (by first | rfl | (simp; done) | (simp; omega)) | apply Blk.alloc | apply Blk.drew)
 clear hw1
 refine (valid_any (.mk i nm r k sb) w1 S _ E (hE.keep0 hc1) hok (hr.chg0 hc1) (fun b hb => by have := hSB b hb; have := hc1.size; omega)).mono ?_
 rintro en w2 ⟨rfl, hc2⟩
 have hb2 := hb1.keep hc2 nbE
 replace hc2 := hc1.tr hc2
 rcases hv : validF (.mk i nm r k sb) with _ | e
 ·have Hv := Lib.hid hv
  have hg := hgood hv
  rw [show errVal E none = .nilIface from rfl]
  clear hv hgood
  have hsz2 := hc2.size
  have hlt2 := hb2.lt
  have c0 : w2.cell? ⟨w.heap.size, 0, none⟩ = some (.int .i64 (i)) := hb2.cell 0
  have c1 : w2.cell? ⟨w.heap.size, 1, none⟩ = some (.string nm) := hb2.cell 1
  have c2 : w2.cell? ⟨w.heap.size, 2, none⟩ = some (.int .i64 (r)) := hb2.cell 2
  have c3 : w2.cell? ⟨w.heap.size, 3, none⟩ = some (.int .i64 (k)) := hb2.cell 3
  have c4 : w2.cell? ⟨w.heap.size, 4, none⟩ = some (.slice sa sb.length cap) := hb2.cell 4
  go_wp2_with fail
  generalize hw3 : (w2.alloc _).alloc _ = w3
  have hc3 : Chg NoB w2 w3 := by
   rw [← hw3]
   repeat (first | exact Chg.refl _ _ | apply Chg.alloc | apply Chg.drew)
  have hd3 : Blk w3 (w2.heap.size) ([.pointer none, .slice none 0 0]) 169 := by
   rw [← hw3]
   repeat (first | exact Blk.newAt (by first | rfl | (simp; done) | (simp; omega)) | apply Blk.alloc | apply Blk.drew)
  have hq3 : Blk w3 (w2.heap.size + 1) ([writer w2.heap.size (w2.heap.size + 1)]) 246 := by
   rw [← hw3]
   repeat (first | exact Blk.newAt (by first | rfl | (simp; done) | (simp; omega)) | apply Blk.alloc | apply Blk.drew)
  clear hw3
  have hB3 : IsB w2.heap.size w2.heap.size (Lib.byteCells []) w3 := .inl ⟨Nat.le_refl _, .slice none 0 0, hd3, World.ownsRow_nil _ _ _ _, fun e => by cases e⟩
  have hc03 := hc2.tr hc3
  refine (text1_any _ (.mk i nm r k sb) w3 w2.heap.size w2.heap.size (w2.heap.size + 1) S _ ⟨#[]⟩ [] (Nat.le_refl _) hg.1 hok (hr.chg0 hc03) (fun b hb => by have := hSB b hb; omega) hc3.size hB3 (by omega) hq3 ((hT.keep0 hc03).up hsz2) ?_).mono ?_
  ·have := hg.2
   simpa using this
  rintro en w4 ⟨rfl, hb4, hc4⟩
  go_wp2_with fail
  refine (Tryz.Builder_String_any w2.heap.size w2.heap.size _ w4 hb4 (by have := hc4.size; have := hc3.size; omega)).mono ?_
  rintro en w5 ⟨rfl, hc5⟩
  go_wp2_with fail
  go_ret2
  have hc04 : Chg NoB w w4 := hc03.trans hc4 (fun b hb => .inr (by have := hb.1; omega))
  refine ⟨?_, hc04.trans (show Chg (fun b => w2.heap.size ≤ b) w4 w5 from ⟨hc5.os, hc5.tape, hc5.output, hc5.size, fun k hk hn => hc5.block k (by omega)⟩) (fun b hb => .inr (by omega))⟩
  rw [Hv.out]
  simp only [textF, Hv.out, if_true]
  rfl
 ·obtain ⟨T, v, hEv⟩ := hform e
  have hEe : errVal E (some e) = .iface T v := hEv
  have Hv := Lib.hid hv
  have HE := Lib.hid hEe
  rw [hEe]
  clear hv hEe
  go_wp2_with fail
  go_ret2
  refine ⟨?_, hc2⟩
  rw [Hv.out, HE.out]
  simp only [textF, Hv.out, if_neg (show ¬ (some e = none) from fun h => by cases h)]
  rfl
end Go.Proofs.YtnmhkafpgohefaaGreatDoor
