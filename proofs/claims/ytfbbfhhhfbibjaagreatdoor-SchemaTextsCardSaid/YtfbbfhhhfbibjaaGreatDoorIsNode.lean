/-
  shredcollaw2.isNode, where it is to say yes.
-/
import Derived.Test.YtfbbfhhhfbibjaaGreatDoorCoded
namespace Go.Proofs.YtfbbfhhhfbibjaaGreatDoor
open Go.RowKit

theorem Told.keep0 {w w' : World} {A : Nat → Addr} {v : Value} {n at' : Int} (h : Told w A v n at') (hc : Chg NoB w w') : Told w' A v n at' := by
  cases h with
  | nil => exact .nil
  | sent i hi => exact .sent i hi
  | fault p i _ hi h0 h1 hb => exact .fault p i _ hi ((hc.cell (lt_of_block' h0) NoB.elim).trans h0) ((hc.cell (lt_of_block' h1) NoB.elim).trans h1) hb
theorem zero_reads (w : World) (S : Nat → Prop) : Reads w S zeroNd.dt [.int .i64 0, .string ⟨#[]⟩, .int .i64 0, .int .i64 0, .slice none 0 0] :=
  reads_nd.2 ⟨_, rfl, none, 0, rfl, Nat.le_refl _, Nat.zero_le _, .inl ⟨rfl, fun _ => rfl⟩⟩

set_option maxHeartbeats 400000 in
theorem isNode_err (v : Value) (c : Int) (w : World) (S : Nat → Prop) (nd : Nd) (cs : List Value) (A : Nat → Addr) (hS : Sents w A) (ht : Told w A v c (-1)) (hc : 0 < c ∧ c ≤ 100) (hr : Reads w S nd.dt cs) :
    Calls Tryz.prog 26 #[zeroNode, v, .agg cs.toArray, .int .i64 c] w (RetV (.bool true) w) := by
  obtain ⟨i, nm, r, k, sb⟩ := nd
  obtain ⟨sv', rfl, hs⟩ := reads_nd.1 hr
  obtain ⟨sa, cap, rfl, _, _, _⟩ := reads_subs hs
  obtain ⟨hc0, hc1⟩ := hc
  unfold zeroNode
  go_enter Tryz.func26, Tryz.ntmps26
  go_wp2_with fail
  generalize hw1 : World.alloc _ _ = w1
  have hc1 : Chg NoB w w1 := by
    rw [← hw1]
    repeat (first | exact Chg.refl _ _ | apply Chg.alloc | apply Chg.drew)
  have hb1 : Blk w1 (w.heap.size) (ndCells 0 ⟨#[]⟩ 0 0 (.slice none 0 0)) 24 := by
    rw [← hw1]
    repeat (first | exact Blk.newAt (by first | rfl | (simp; done) | (simp; omega)) | apply Blk.alloc | apply Blk.drew)
  clear hw1
  refine (coded_any v c (-1) c w1 A (hS.keep0 hc1) (ht.keep0 hc1) (by omega) (by omega)).mono ?_
  rintro en w2 ⟨rfl, hc2⟩
  have hb2 := hb1.keep hc2 NoB.elim
  simp only [decide_true, Bool.and_self]
  have x0 : w2.cell? ⟨w.heap.size, 0, none⟩ = some (.int .i64 (0)) := hb2.cell 0
  have x1 : w2.cell? ⟨w.heap.size, 1, none⟩ = some (.string ⟨#[]⟩) := hb2.cell 1
  have x2 : w2.cell? ⟨w.heap.size, 2, none⟩ = some (.int .i64 (0)) := hb2.cell 2
  have x3 : w2.cell? ⟨w.heap.size, 3, none⟩ = some (.int .i64 (0)) := hb2.cell 3
  have x4 : w2.cell? ⟨w.heap.size, 4, none⟩ = some (.slice none 0 0) := hb2.cell 4
  have l2 := hb2.lt
  go_wp2_with fail
  refine (sameNode_yes _ zeroNd w2 (fun _ => False) (fun _ => False) _ _ (Nat.le_refl _) (zero_reads _ _) (zero_reads _ _) zeroNd_ok).mono ?_
  rintro en w3 ⟨rfl, hc3⟩
  go_wp2_with fail
  go_ret
  exact ⟨rfl, (hc1.tr hc2).tr hc3⟩

set_option maxHeartbeats 400000 in
theorem isNode_ok (w : World) (S T : Nat → Prop) (nd : Nd) (cs ds : List Value) (hr : Reads w S nd.dt cs) (hq : Reads w T nd.dt ds) (hok : nd.ok) :
    Calls Tryz.prog 26 #[.agg cs.toArray, .nilIface, .agg ds.toArray, .int .i64 0] w (RetV (.bool true) w) := by
  obtain ⟨i, nm, r, k, sb⟩ := nd
  obtain ⟨sv1, rfl, hs⟩ := reads_nd.1 hr
  obtain ⟨sa, cap, rfl, _, _, _⟩ := reads_subs hs
  obtain ⟨sv2, rfl, hs2⟩ := reads_nd.1 hq
  obtain ⟨sa2, cap2, rfl, _, _, _⟩ := reads_subs hs2
  go_enter Tryz.func26, Tryz.ntmps26
  go_wp2_with fail
  generalize hw1 : World.alloc _ _ = w1
  have hc1 : Chg NoB w w1 := by
    rw [← hw1]
    repeat (first | exact Chg.refl _ _ | apply Chg.alloc | apply Chg.drew)
  clear hw1
  refine (sameNode_yes _ (.mk i nm r k sb) w1 _ _ _ _ (Nat.le_refl _) (hr.chg0 hc1) (hq.chg0 hc1) hok).mono ?_
  rintro en w3 ⟨rfl, hc3⟩
  go_wp2_with fail
  go_ret
  exact ⟨rfl, hc1.tr hc3⟩
end Go.Proofs.YtfbbfhhhfbibjaaGreatDoor
