/-
  shredcolref4.some: some right datum, by a number; new memory; nothing else has changed.
-/
import Derived.Test.YtgcmfpcgmkkobaaGreatDoorFresh
import Derived.Test.YtgcmfpcgmkkobaaGreatDoorPastLaw
import Derived.Test.YtgcmfpcgmkkobaaGreatDoorReplayLaw
set_option linter.unusedVariables false
set_option maxHeartbeats 20000000
set_option maxRecDepth 100000
set_option linter.unusedSimpArgs false
namespace Go.Proofs.YtgcmfpcgmkkobaaGreatDoor
open Go.RowKit
theorem mod_pos {p k : Int} (h : 0 ≤ p) : p.tmod k = p % k := Int.tmod_eq_emod_of_nonneg h
theorem div_pos2 {p k : Int} (h : 0 ≤ p) : p.tdiv k = p / k := Int.tdiv_eq_ediv_of_nonneg h
theorem some_none {n : Nd} {p : Int} (h2 : n.rep = 2) (h : p % 3 = 0) : someF n p false = noneD := by
 unfold someF liftF
 rw [if_pos ⟨h2, rfl, h⟩]
theorem some_list {n : Nd} {p : Int} (h3 : n.rep = 3) : someF n p false = .mk false 0 0 ⟨#[]⟩ ((List.range (p % 3).toNat).map fun i => datF n (p + (i : Nat))) [] := by
 unfold someF liftF
 rw [if_neg (fun e => by have := e.1; omega), if_pos ⟨h3, rfl⟩]
theorem some_one {n : Nd} {p : Int} {one : Bool} (h : n.rep = 1 ∨ one = true ∨ (n.rep = 2 ∧ p % 3 ≠ 0)) : someF n p one = datF n p := by
 unfold someF liftF
 rw [if_neg, if_neg]
 ·rintro ⟨h1, h2⟩
  rcases h with h | h | ⟨h, _⟩
  ·omega
  ·rw [h2] at h; cases h
  ·omega
 ·rintro ⟨h1, h2, h3⟩
  rcases h with h | h | ⟨_, h⟩
  ·omega
  ·rw [h2] at h; cases h
  ·exact h h3
def Grd (r p : Int) (one : Bool) : Prop := ((r == 2) = false ∧ (r == 3) = false) ∨ ((r == 2) = true ∧ (r == 3) = false ∧ one = true) ∨ ((r == 2) = true ∧ (r == 3) = false ∧ one = false ∧ (p.tmod 3 == 0) = false) ∨ ((r == 2) = false ∧ (r == 3) = true ∧ one = true)
theorem someR_four (i : Int) (nm : ByteArray) (r p : Int) (one : Bool) (a : Option Addr) (cap : Nat) (w : World) (hp0 : 0 ≤ p) (hp5 : p ≤ 5000) (hg : Grd r p one) :
  Calls Tryz.prog 35 #[.agg #[.int .i64 i, .string nm, .int .i64 r, .int .i64 4, .slice a 0 cap], .int .i64 p, .bool one] w (RetNew (Dm.mk false 4 0 ⟨(Lib.itoa p).toArray⟩ [] []).dt w) := by
 have hdec := fun w' => decimal_any p w' ⟨by omega, by omega⟩
 generalize (⟨(Lib.itoa p).toArray⟩ : ByteArray) = ds at hdec ⊢
 have Hdec := Lib.hid hdec
 clear hdec
 unfold Grd at hg
 go_enter Tryz.func35, Tryz.ntmps35
 go_upto_region 2 with fail
 generalize hw1 : World.alloc _ _ = w1
 have hc1 : Chg NoB w w1 := by
  rw [← hw1]
  repeat (first | exact Chg.refl _ _ | apply Chg.alloc | apply Chg.drew)
 have hb0 : Blk w1 (w.heap.size) (ndCells i nm r 4 (.slice a 0 cap)) 28 := by
  rw [← hw1]
  repeat (first | exact Blk.newAt (by first | rfl | (simp; done) | (simp; omega)) | apply Blk.alloc | apply Blk.drew)
 have hb1 : Blk w1 (w.heap.size + 1) (dmCells false 0 0 ⟨#[]⟩ (.slice none 0 0) (.slice none 0 0)) 43 := by
  rw [← hw1]
  repeat (first | exact Blk.newAt (by first | rfl | (simp; done) | (simp; omega)) | apply Blk.alloc | apply Blk.drew)
 have hb2 : Blk w1 (w.heap.size + 2) (dmCells false 0 0 ⟨#[]⟩ (.slice none 0 0) (.slice none 0 0)) 43 := by
  rw [← hw1]
  repeat (first | exact Blk.newAt (by first | rfl | (simp; done) | (simp; omega)) | apply Blk.alloc | apply Blk.drew)
 clear hw1
 have y0 : w1.cell? ⟨w.heap.size, 0, none⟩ = some (.int .i64 (i)) := hb0.cell 0
 have y1 : w1.cell? ⟨w.heap.size, 1, none⟩ = some (.string nm) := hb0.cell 1
 have y2 : w1.cell? ⟨w.heap.size, 2, none⟩ = some (.int .i64 (r)) := hb0.cell 2
 have y3 : w1.cell? ⟨w.heap.size, 3, none⟩ = some (.int .i64 (4)) := hb0.cell 3
 have y4 : w1.cell? ⟨w.heap.size, 4, none⟩ = some (.slice a 0 cap) := hb0.cell 4
 have l0 := hb0.lt
 go_cut [22] (fun v22 wx => v22 = .bool false ∧ wx = w1)
 case first =>
  rcases hg with ⟨x2, x3⟩ | ⟨x2, x3, rfl⟩ | ⟨x2, x3, rfl, h3⟩ | ⟨x2, x3, rfl⟩
  all_goals
   go_wp2_with fail
   go_meet
   exact ⟨by first | rfl | (rw [← mod_pos hp0]; exact congrArg Value.bool h3), rfl⟩
 case rest =>
 obtain ⟨rfl, ecut⟩ := hcut
 rw [ecut]
 clear ecut
 go_upto_region 4 with fail
 go_cut [30] (fun v30 wx => v30 = .bool false ∧ wx = w1)
 case first =>
  rcases hg with ⟨x2, x3⟩ | ⟨x2, x3, rfl⟩ | ⟨x2, x3, rfl, h3⟩ | ⟨x2, x3, rfl⟩
  all_goals
   go_wp2_with fail
   go_meet
   exact ⟨by first | rfl | (rw [← mod_pos hp0]; exact congrArg Value.bool h3), rfl⟩
 case rest =>
 obtain ⟨rfl, ecut⟩ := hcut
 rw [ecut]
 clear ecut
 clear hg
 go_wp2_with fail
 refine (Hdec.out w1).mono ?_
 rintro en w2 ⟨rfl, hc2⟩
 replace hb0 := hb0.keep hc2 nbE
 replace hb1 := hb1.keep hc2 nbE
 replace hb2 := hb2.keep hc2 nbE
 have hc02 := hc1.tr hc2
 have y0 : w2.cell? ⟨w.heap.size, 0, none⟩ = some (.int .i64 (i)) := hb0.cell 0
 have y1 : w2.cell? ⟨w.heap.size, 1, none⟩ = some (.string nm) := hb0.cell 1
 have y2 : w2.cell? ⟨w.heap.size, 2, none⟩ = some (.int .i64 (r)) := hb0.cell 2
 have y3 : w2.cell? ⟨w.heap.size, 3, none⟩ = some (.int .i64 (4)) := hb0.cell 3
 have y4 : w2.cell? ⟨w.heap.size, 4, none⟩ = some (.slice a 0 cap) := hb0.cell 4
 have c0 : w2.cell? ⟨w.heap.size + 2, 0, none⟩ = some (.bool false) := hb2.cell 0
 have c1 : w2.cell? ⟨w.heap.size + 2, 1, none⟩ = some (.int .i64 (0)) := hb2.cell 1
 have c2 : w2.cell? ⟨w.heap.size + 2, 2, none⟩ = some (.int .i64 (0)) := hb2.cell 2
 have c3 : w2.cell? ⟨w.heap.size + 2, 3, none⟩ = some (.string ⟨#[]⟩) := hb2.cell 3
 have c4 : w2.cell? ⟨w.heap.size + 2, 4, none⟩ = some (.slice none 0 0) := hb2.cell 4
 have c5 : w2.cell? ⟨w.heap.size + 2, 5, none⟩ = some (.slice none 0 0) := hb2.cell 5
 have f0 : w2.frozen? ⟨w.heap.size + 2, 0, none⟩ = false := hb2.free 0
 have f1 : w2.frozen? ⟨w.heap.size + 2, 1, none⟩ = false := hb2.free 1
 have f2 : w2.frozen? ⟨w.heap.size + 2, 2, none⟩ = false := hb2.free 2
 have f3 : w2.frozen? ⟨w.heap.size + 2, 3, none⟩ = false := hb2.free 3
 have f4 : w2.frozen? ⟨w.heap.size + 2, 4, none⟩ = false := hb2.free 4
 have f5 : w2.frozen? ⟨w.heap.size + 2, 5, none⟩ = false := hb2.free 5
 have l2 := hb2.lt
 go_wp2_with fail
 have hb3 := ((hb2.set 1 (.int .i64 4)).set 2 (.int .i64 0)).set 3 (.string ds)
 have hc23 := (((Chg.refl (OneB (w.heap.size + 2)) w2).setCell (p := ⟨w.heap.size + 2, 1, none⟩) (.inl rfl) (.int .i64 4)).setCell (p := ⟨w.heap.size + 2, 2, none⟩) (.inl rfl) (.int .i64 0)).setCell (p := ⟨w.heap.size + 2, 3, none⟩) (.inl rfl) (.string ds)
 generalize World.setCell (World.setCell (World.setCell w2 ⟨w.heap.size + 2, 1, none⟩ (.int .i64 4)) ⟨w.heap.size + 2, 2, none⟩ (.int .i64 0)) ⟨w.heap.size + 2, 3, none⟩ (.string ds) = w3 at hb3 hc23 ⊢
 replace hb0 := hb0.keep hc23 (fun e => by have e : w.heap.size = w.heap.size + 2 := e; omega)
 replace hb1 := hb1.keep hc23 (fun e => by have e : w.heap.size + 1 = w.heap.size + 2 := e; omega)
 have hc03 : Chg NoB w w3 := hc02.trans' hc23 (fun y e => by have e : y = w.heap.size + 2 := e; omega)
 simp only [qE, qF, dmCells] at hb3
 clear hb2 hc2 hc23 y0 y1 y2 y3 y4 c0 c1 c2 c3 c4 c5 f0 f1 f2 f3 f4 f5
 go_loopw [9] (fun vi wr => vi = .int .i64 0 ∧ wr = w3) (fun _ _ => 0)
 case atStart => exact ⟨rfl, rfl⟩
 case round =>
  obtain ⟨rfl, hwr⟩ := hrel
  rw [hwr]
  clear hwr
  have y0 : w3.cell? ⟨w.heap.size, 0, none⟩ = some (.int .i64 (i)) := hb0.cell 0
  have y1 : w3.cell? ⟨w.heap.size, 1, none⟩ = some (.string nm) := hb0.cell 1
  have y2 : w3.cell? ⟨w.heap.size, 2, none⟩ = some (.int .i64 (r)) := hb0.cell 2
  have y3 : w3.cell? ⟨w.heap.size, 3, none⟩ = some (.int .i64 (4)) := hb0.cell 3
  have y4 : w3.cell? ⟨w.heap.size, 4, none⟩ = some (.slice a 0 cap) := hb0.cell 4
  have c0 : w3.cell? ⟨w.heap.size + 2, 0, none⟩ = some (.bool false) := hb3.cell 0
  have c1 : w3.cell? ⟨w.heap.size + 2, 1, none⟩ = some (.int .i64 (4)) := hb3.cell 1
  have c2 : w3.cell? ⟨w.heap.size + 2, 2, none⟩ = some (.int .i64 (0)) := hb3.cell 2
  have c3 : w3.cell? ⟨w.heap.size + 2, 3, none⟩ = some (.string ds) := hb3.cell 3
  have c4 : w3.cell? ⟨w.heap.size + 2, 4, none⟩ = some (.slice none 0 0) := hb3.cell 4
  have c5 : w3.cell? ⟨w.heap.size + 2, 5, none⟩ = some (.slice none 0 0) := hb3.cell 5
  have d0 : w3.cell? ⟨w.heap.size + 1, 0, none⟩ = some (.bool false) := hb1.cell 0
  have d1 : w3.cell? ⟨w.heap.size + 1, 1, none⟩ = some (.int .i64 (0)) := hb1.cell 1
  have d2 : w3.cell? ⟨w.heap.size + 1, 2, none⟩ = some (.int .i64 (0)) := hb1.cell 2
  have d3 : w3.cell? ⟨w.heap.size + 1, 3, none⟩ = some (.string ⟨#[]⟩) := hb1.cell 3
  have d4 : w3.cell? ⟨w.heap.size + 1, 4, none⟩ = some (.slice none 0 0) := hb1.cell 4
  have d5 : w3.cell? ⟨w.heap.size + 1, 5, none⟩ = some (.slice none 0 0) := hb1.cell 5
  have f0 : w3.frozen? ⟨w.heap.size + 1, 0, none⟩ = false := hb1.free 0
  have f1 : w3.frozen? ⟨w.heap.size + 1, 1, none⟩ = false := hb1.free 1
  have f2 : w3.frozen? ⟨w.heap.size + 1, 2, none⟩ = false := hb1.free 2
  have f3 : w3.frozen? ⟨w.heap.size + 1, 3, none⟩ = false := hb1.free 3
  have f4 : w3.frozen? ⟨w.heap.size + 1, 4, none⟩ = false := hb1.free 4
  have f5 : w3.frozen? ⟨w.heap.size + 1, 5, none⟩ = false := hb1.free 5
  go_wp2_with fail
  have hbE := store6 hb1 (.bool false) (.int .i64 (4)) (.int .i64 (0)) (.string ds) (.slice none 0 0) (.slice none 0 0)
  have hsE := store6_chg w3 (w.heap.size + 1) (.bool false) (.int .i64 (4)) (.int .i64 (0)) (.string ds) (.slice none 0 0) (.slice none 0 0)
  have hcE := hc03.trans hsE (fun i e => .inr (by have e : i = w.heap.size + 1 := e; omega))
  generalize World.setCell (World.setCell (World.setCell (World.setCell (World.setCell (World.setCell w3 ⟨w.heap.size + 1, 0, none⟩ (.bool false)) ⟨w.heap.size + 1, 1, none⟩ (.int .i64 (4))) ⟨w.heap.size + 1, 2, none⟩ (.int .i64 (0))) ⟨w.heap.size + 1, 3, none⟩ (.string ds)) ⟨w.heap.size + 1, 4, none⟩ (.slice none 0 0)) ⟨w.heap.size + 1, 5, none⟩ (.slice none 0 0) = wE at hbE hsE hcE ⊢
  have n0 : wE.cell? ⟨w.heap.size + 1, 0, none⟩ = some (.bool false) := hbE.cell 0
  have n1 : wE.cell? ⟨w.heap.size + 1, 1, none⟩ = some (.int .i64 (4)) := hbE.cell 1
  have n2 : wE.cell? ⟨w.heap.size + 1, 2, none⟩ = some (.int .i64 (0)) := hbE.cell 2
  have n3 : wE.cell? ⟨w.heap.size + 1, 3, none⟩ = some (.string ds) := hbE.cell 3
  have n4 : wE.cell? ⟨w.heap.size + 1, 4, none⟩ = some (.slice none 0 0) := hbE.cell 4
  have n5 : wE.cell? ⟨w.heap.size + 1, 5, none⟩ = some (.slice none 0 0) := hbE.cell 5
  refine bodyPost_ret (v := .agg #[.bool false, .int .i64 (4), .int .i64 (0), .string ds, .slice none 0 0, .slice none 0 0]) (by simp [results, Tryz.results35, go_sem, n0, n1, n2, n3, n4, n5]) rfl ?_
  exact ⟨_, rfl, reads_dm.2 ⟨_, _, rfl, nil_data _ _, nil_data _ _⟩, hcE⟩
theorem someR_leaf (i : Int) (nm : ByteArray) (r k p : Int) (one : Bool) (a : Option Addr) (cap : Nat) (w : World) (hp0 : 0 ≤ p) (hp5 : p ≤ 5000) (hg : Grd r p one) (hk : ¬ k = 0) (hk4 : ¬ k = 4) :
  Calls Tryz.prog 35 #[.agg #[.int .i64 i, .string nm, .int .i64 r, .int .i64 k, .slice a 0 cap], .int .i64 p, .bool one] w (RetNew (Dm.mk false k (p % 2) ⟨#[]⟩ [] []).dt w) := by
 have hkb : (k == 0) = false := by simpa using hk
 have hkb4 : (k == 4) = false := by simpa using hk4
 have hkn : (k != 0) = true := by simpa using hk
 unfold Grd at hg
 go_enter Tryz.func35, Tryz.ntmps35
 go_upto_region 2 with fail
 generalize hw1 : World.alloc _ _ = w1
 have hc1 : Chg NoB w w1 := by
  rw [← hw1]
  repeat (first | exact Chg.refl _ _ | apply Chg.alloc | apply Chg.drew)
 have hb0 : Blk w1 (w.heap.size) (ndCells i nm r k (.slice a 0 cap)) 28 := by
  rw [← hw1]
  repeat (first | exact Blk.newAt (by first | rfl | (simp; done) | (simp; omega)) | apply Blk.alloc | apply Blk.drew)
 have hb1 : Blk w1 (w.heap.size + 1) (dmCells false 0 0 ⟨#[]⟩ (.slice none 0 0) (.slice none 0 0)) 43 := by
  rw [← hw1]
  repeat (first | exact Blk.newAt (by first | rfl | (simp; done) | (simp; omega)) | apply Blk.alloc | apply Blk.drew)
 have hb2 : Blk w1 (w.heap.size + 2) (dmCells false 0 0 ⟨#[]⟩ (.slice none 0 0) (.slice none 0 0)) 43 := by
  rw [← hw1]
  repeat (first | exact Blk.newAt (by first | rfl | (simp; done) | (simp; omega)) | apply Blk.alloc | apply Blk.drew)
 clear hw1
 have y0 : w1.cell? ⟨w.heap.size, 0, none⟩ = some (.int .i64 (i)) := hb0.cell 0
 have y1 : w1.cell? ⟨w.heap.size, 1, none⟩ = some (.string nm) := hb0.cell 1
 have y2 : w1.cell? ⟨w.heap.size, 2, none⟩ = some (.int .i64 (r)) := hb0.cell 2
 have y3 : w1.cell? ⟨w.heap.size, 3, none⟩ = some (.int .i64 (k)) := hb0.cell 3
 have y4 : w1.cell? ⟨w.heap.size, 4, none⟩ = some (.slice a 0 cap) := hb0.cell 4
 have l0 := hb0.lt
 go_cut [22] (fun v22 wx => v22 = .bool false ∧ wx = w1)
 case first =>
  rcases hg with ⟨x2, x3⟩ | ⟨x2, x3, rfl⟩ | ⟨x2, x3, rfl, h3⟩ | ⟨x2, x3, rfl⟩
  all_goals
   go_wp2_with fail
   go_meet
   exact ⟨by first | rfl | (rw [← mod_pos hp0]; exact congrArg Value.bool h3), rfl⟩
 case rest =>
 obtain ⟨rfl, ecut⟩ := hcut
 rw [ecut]
 clear ecut
 go_upto_region 4 with fail
 go_cut [30] (fun v30 wx => v30 = .bool false ∧ wx = w1)
 case first =>
  rcases hg with ⟨x2, x3⟩ | ⟨x2, x3, rfl⟩ | ⟨x2, x3, rfl, h3⟩ | ⟨x2, x3, rfl⟩
  all_goals
   go_wp2_with fail
   go_meet
   exact ⟨by first | rfl | (rw [← mod_pos hp0]; exact congrArg Value.bool h3), rfl⟩
 case rest =>
 obtain ⟨rfl, ecut⟩ := hcut
 rw [ecut]
 clear ecut
 clear hg
 have c0 : w1.cell? ⟨w.heap.size + 2, 0, none⟩ = some (.bool false) := hb2.cell 0
 have c1 : w1.cell? ⟨w.heap.size + 2, 1, none⟩ = some (.int .i64 (0)) := hb2.cell 1
 have c2 : w1.cell? ⟨w.heap.size + 2, 2, none⟩ = some (.int .i64 (0)) := hb2.cell 2
 have c3 : w1.cell? ⟨w.heap.size + 2, 3, none⟩ = some (.string ⟨#[]⟩) := hb2.cell 3
 have c4 : w1.cell? ⟨w.heap.size + 2, 4, none⟩ = some (.slice none 0 0) := hb2.cell 4
 have c5 : w1.cell? ⟨w.heap.size + 2, 5, none⟩ = some (.slice none 0 0) := hb2.cell 5
 have f0 : w1.frozen? ⟨w.heap.size + 2, 0, none⟩ = false := hb2.free 0
 have f1 : w1.frozen? ⟨w.heap.size + 2, 1, none⟩ = false := hb2.free 1
 have f2 : w1.frozen? ⟨w.heap.size + 2, 2, none⟩ = false := hb2.free 2
 have f3 : w1.frozen? ⟨w.heap.size + 2, 3, none⟩ = false := hb2.free 3
 have f4 : w1.frozen? ⟨w.heap.size + 2, 4, none⟩ = false := hb2.free 4
 have f5 : w1.frozen? ⟨w.heap.size + 2, 5, none⟩ = false := hb2.free 5
 have l2 := hb2.lt
 go_wp2_with fail
 have hb3 := ((hb2.set 1 (.int .i64 k)).set 2 (.int .i64 (p % 2))).set 3 (.string ⟨#[]⟩)
 have hc23 := (((Chg.refl (OneB (w.heap.size + 2)) w1).setCell (p := ⟨w.heap.size + 2, 1, none⟩) (.inl rfl) (.int .i64 k)).setCell (p := ⟨w.heap.size + 2, 2, none⟩) (.inl rfl) (.int .i64 (p % 2))).setCell (p := ⟨w.heap.size + 2, 3, none⟩) (.inl rfl) (.string ⟨#[]⟩)
 generalize World.setCell (World.setCell (World.setCell w1 ⟨w.heap.size + 2, 1, none⟩ (.int .i64 k)) ⟨w.heap.size + 2, 2, none⟩ (.int .i64 (p % 2))) ⟨w.heap.size + 2, 3, none⟩ (.string ⟨#[]⟩) = w3 at hb3 hc23 ⊢
 replace hb0 := hb0.keep hc23 (fun e => by have e : w.heap.size = w.heap.size + 2 := e; omega)
 replace hb1 := hb1.keep hc23 (fun e => by have e : w.heap.size + 1 = w.heap.size + 2 := e; omega)
 have hc03 : Chg NoB w w3 := hc1.trans' hc23 (fun y e => by have e : y = w.heap.size + 2 := e; omega)
 simp only [qE, qF, dmCells] at hb3
 clear hb2 hc23 y0 y1 y2 y3 y4 c0 c1 c2 c3 c4 c5 f0 f1 f2 f3 f4 f5
 go_loopw [9] (fun vi wr => vi = .int .i64 0 ∧ wr = w3) (fun _ _ => 0)
 case atStart => exact ⟨rfl, rfl⟩
 case round =>
  obtain ⟨rfl, hwr⟩ := hrel
  rw [hwr]
  clear hwr
  have y0 : w3.cell? ⟨w.heap.size, 0, none⟩ = some (.int .i64 (i)) := hb0.cell 0
  have y1 : w3.cell? ⟨w.heap.size, 1, none⟩ = some (.string nm) := hb0.cell 1
  have y2 : w3.cell? ⟨w.heap.size, 2, none⟩ = some (.int .i64 (r)) := hb0.cell 2
  have y3 : w3.cell? ⟨w.heap.size, 3, none⟩ = some (.int .i64 (k)) := hb0.cell 3
  have y4 : w3.cell? ⟨w.heap.size, 4, none⟩ = some (.slice a 0 cap) := hb0.cell 4
  have c0 : w3.cell? ⟨w.heap.size + 2, 0, none⟩ = some (.bool false) := hb3.cell 0
  have c1 : w3.cell? ⟨w.heap.size + 2, 1, none⟩ = some (.int .i64 (k)) := hb3.cell 1
  have c2 : w3.cell? ⟨w.heap.size + 2, 2, none⟩ = some (.int .i64 (p % 2)) := hb3.cell 2
  have c3 : w3.cell? ⟨w.heap.size + 2, 3, none⟩ = some (.string ⟨#[]⟩) := hb3.cell 3
  have c4 : w3.cell? ⟨w.heap.size + 2, 4, none⟩ = some (.slice none 0 0) := hb3.cell 4
  have c5 : w3.cell? ⟨w.heap.size + 2, 5, none⟩ = some (.slice none 0 0) := hb3.cell 5
  have d0 : w3.cell? ⟨w.heap.size + 1, 0, none⟩ = some (.bool false) := hb1.cell 0
  have d1 : w3.cell? ⟨w.heap.size + 1, 1, none⟩ = some (.int .i64 (0)) := hb1.cell 1
  have d2 : w3.cell? ⟨w.heap.size + 1, 2, none⟩ = some (.int .i64 (0)) := hb1.cell 2
  have d3 : w3.cell? ⟨w.heap.size + 1, 3, none⟩ = some (.string ⟨#[]⟩) := hb1.cell 3
  have d4 : w3.cell? ⟨w.heap.size + 1, 4, none⟩ = some (.slice none 0 0) := hb1.cell 4
  have d5 : w3.cell? ⟨w.heap.size + 1, 5, none⟩ = some (.slice none 0 0) := hb1.cell 5
  have f0 : w3.frozen? ⟨w.heap.size + 1, 0, none⟩ = false := hb1.free 0
  have f1 : w3.frozen? ⟨w.heap.size + 1, 1, none⟩ = false := hb1.free 1
  have f2 : w3.frozen? ⟨w.heap.size + 1, 2, none⟩ = false := hb1.free 2
  have f3 : w3.frozen? ⟨w.heap.size + 1, 3, none⟩ = false := hb1.free 3
  have f4 : w3.frozen? ⟨w.heap.size + 1, 4, none⟩ = false := hb1.free 4
  have f5 : w3.frozen? ⟨w.heap.size + 1, 5, none⟩ = false := hb1.free 5
  go_wp2_with fail
  have hbE := store6 hb1 (.bool false) (.int .i64 (k)) (.int .i64 (p % 2)) (.string ⟨#[]⟩) (.slice none 0 0) (.slice none 0 0)
  have hsE := store6_chg w3 (w.heap.size + 1) (.bool false) (.int .i64 (k)) (.int .i64 (p % 2)) (.string ⟨#[]⟩) (.slice none 0 0) (.slice none 0 0)
  have hcE := hc03.trans hsE (fun i e => .inr (by have e : i = w.heap.size + 1 := e; omega))
  generalize World.setCell (World.setCell (World.setCell (World.setCell (World.setCell (World.setCell w3 ⟨w.heap.size + 1, 0, none⟩ (.bool false)) ⟨w.heap.size + 1, 1, none⟩ (.int .i64 (k))) ⟨w.heap.size + 1, 2, none⟩ (.int .i64 (p % 2))) ⟨w.heap.size + 1, 3, none⟩ (.string ⟨#[]⟩)) ⟨w.heap.size + 1, 4, none⟩ (.slice none 0 0)) ⟨w.heap.size + 1, 5, none⟩ (.slice none 0 0) = wE at hbE hsE hcE ⊢
  have n0 : wE.cell? ⟨w.heap.size + 1, 0, none⟩ = some (.bool false) := hbE.cell 0
  have n1 : wE.cell? ⟨w.heap.size + 1, 1, none⟩ = some (.int .i64 (k)) := hbE.cell 1
  have n2 : wE.cell? ⟨w.heap.size + 1, 2, none⟩ = some (.int .i64 (p % 2)) := hbE.cell 2
  have n3 : wE.cell? ⟨w.heap.size + 1, 3, none⟩ = some (.string ⟨#[]⟩) := hbE.cell 3
  have n4 : wE.cell? ⟨w.heap.size + 1, 4, none⟩ = some (.slice none 0 0) := hbE.cell 4
  have n5 : wE.cell? ⟨w.heap.size + 1, 5, none⟩ = some (.slice none 0 0) := hbE.cell 5
  refine bodyPost_ret (v := .agg #[.bool false, .int .i64 (k), .int .i64 (p % 2), .string ⟨#[]⟩, .slice none 0 0, .slice none 0 0]) (by simp [results, Tryz.results35, go_sem, n0, n1, n2, n3, n4, n5]) rfl ?_
  exact ⟨_, rfl, reads_dm.2 ⟨_, _, rfl, nil_data _ _, nil_data _ _⟩, hcE⟩
theorem someR_group (i : Int) (nm : ByteArray) (r p : Int) (one : Bool) (s : List Nd) (a : Option Addr) (cap : Nat) (w : World) (S : Nat → Prop) (hp0 : 0 ≤ p) (hp5 : p ≤ 5000) (hg : Grd r p one) (hlen39 : s.length ≤ 39) (hcap : cap ≤ 9223372036854775807)
  (hel : s.length ≠ 0 → ∃ b off, a = some ⟨b, off, none⟩ ∧ S b ∧ b < w.heap.size ∧ ReadsE w S 5 b off (s.map Nd.dt))
  (hI : ∀ c ∈ s, ∀ (q : Int) (w : World) (S : Nat → Prop) (cs : List Value), 0 ≤ q → q ≤ 4000 → Reads w S c.dt cs → Calls Tryz.prog 35 #[.agg cs.toArray, .int .i64 q, .bool false] w (RetNew (someF c q false).dt w)) :
  Calls Tryz.prog 35 #[.agg #[.int .i64 i, .string nm, .int .i64 r, .int .i64 0, .slice a s.length cap], .int .i64 p, .bool one] w (RetNew (Dm.mk false 0 0 ⟨#[]⟩ [] (fillF s p 1)).dt w) := by
 have HI := Lib.hid hI
 have ed4 := div_pos2 (k := 2) hp0
 clear hI
 unfold Grd at hg
 go_enter Tryz.func35, Tryz.ntmps35
 go_upto_region 2 with fail
 generalize hw1 : World.alloc _ _ = w1
 have hc1 : Chg NoB w w1 := by
  rw [← hw1]
  repeat (first | exact Chg.refl _ _ | apply Chg.alloc | apply Chg.drew)
 have hb0 : Blk w1 (w.heap.size) (ndCells i nm r 0 (.slice a s.length cap)) 28 := by
  rw [← hw1]
  repeat (first | exact Blk.newAt (by first | rfl | (simp; done) | (simp; omega)) | apply Blk.alloc | apply Blk.drew)
 have hb1 : Blk w1 (w.heap.size + 1) (dmCells false 0 0 ⟨#[]⟩ (.slice none 0 0) (.slice none 0 0)) 43 := by
  rw [← hw1]
  repeat (first | exact Blk.newAt (by first | rfl | (simp; done) | (simp; omega)) | apply Blk.alloc | apply Blk.drew)
 have hb2 : Blk w1 (w.heap.size + 2) (dmCells false 0 0 ⟨#[]⟩ (.slice none 0 0) (.slice none 0 0)) 43 := by
  rw [← hw1]
  repeat (first | exact Blk.newAt (by first | rfl | (simp; done) | (simp; omega)) | apply Blk.alloc | apply Blk.drew)
 clear hw1
 have y0 : w1.cell? ⟨w.heap.size, 0, none⟩ = some (.int .i64 (i)) := hb0.cell 0
 have y1 : w1.cell? ⟨w.heap.size, 1, none⟩ = some (.string nm) := hb0.cell 1
 have y2 : w1.cell? ⟨w.heap.size, 2, none⟩ = some (.int .i64 (r)) := hb0.cell 2
 have y3 : w1.cell? ⟨w.heap.size, 3, none⟩ = some (.int .i64 (0)) := hb0.cell 3
 have y4 : w1.cell? ⟨w.heap.size, 4, none⟩ = some (.slice a s.length cap) := hb0.cell 4
 have l0 := hb0.lt
 go_cut [22] (fun v22 wx => v22 = .bool false ∧ wx = w1)
 case first =>
  rcases hg with ⟨x2, x3⟩ | ⟨x2, x3, rfl⟩ | ⟨x2, x3, rfl, h3⟩ | ⟨x2, x3, rfl⟩
  all_goals
   go_wp2_with fail
   go_meet
   exact ⟨by first | rfl | (rw [← mod_pos hp0]; exact congrArg Value.bool h3), rfl⟩
 case rest =>
 obtain ⟨rfl, ecut⟩ := hcut
 rw [ecut]
 clear ecut
 go_upto_region 4 with fail
 go_cut [30] (fun v30 wx => v30 = .bool false ∧ wx = w1)
 case first =>
  rcases hg with ⟨x2, x3⟩ | ⟨x2, x3, rfl⟩ | ⟨x2, x3, rfl, h3⟩ | ⟨x2, x3, rfl⟩
  all_goals
   go_wp2_with fail
   go_meet
   exact ⟨rfl, rfl⟩
 case rest =>
 obtain ⟨rfl, ecut⟩ := hcut
 rw [ecut]
 clear ecut
 clear hg
 have hz1 := hb2.lt
 go_wp2_with fail
 clear y0 y1 y2 y3 y4
 go_loopw [9] (fun vi wr => GrowRel w (w.heap.size + 2) (w.heap.size + 3) (ndCells i nm r 0 (.slice a s.length cap)) (fun v => dmCells false 0 0 ⟨#[]⟩ (.slice none 0 0) v) (fun j => (fillF s p 1).take j) s.length vi wr) (fun vi _ => s.length - (intOf vi).toNat)
 case atStart => exact ⟨0, _, Nat.zero_le _, rfl, hc1, hb0, hb1, hb2, by simpa [Dm.dts] using Own.nil _ _ _ _ _⟩
 case round =>
  obtain ⟨j, v, hj, rfl, hc, hb0, hb1, hb2, ho⟩ := hrel
  dsimp only at hb2 ho
  have hsz : w.heap.size + 3 ≤ wr.heap.size := hb2.lt
  have c4 : wr.cell? ⟨w.heap.size, 4, none⟩ = some (.slice a s.length cap) := hb0.cell 4
  have hfl := fill_len s p 1
  by_cases hlt : j < s.length
  ·have hltI : (j : Int) < (s.length : Int) := by omega
   obtain ⟨b, off, rfl, hSb, hbw, hE⟩ := hel (by omega)
   obtain ⟨ecs, hl5, hcells, hre⟩ := hE.get j s[j].dt (by simp [hlt])
   have hfa := fill_at s p 1 j s[j] (List.getElem?_eq_getElem hlt)
   rw [show p / 2 + 1 + (j : Nat) = p / 2 + (j : Nat) + 1 from by omega] at hfa
   have hcall := HI.out _ (List.getElem_mem hlt) (p / 2 + (j : Nat) + 1) wr.drew S ecs (by omega) (by omega) (hre.chg0 hc.drew)
   have Hcall := Lib.hid hcall
   have Htake := Lib.hid (show (fillF s p 1).take (j + 1) = (fillF s p 1).take j ++ [someF s[j] (p / 2 + (j : Nat) + 1) false] by
    obtain ⟨h1, h2⟩ := List.getElem?_eq_some_iff.1 hfa
    rw [List.take_succ_eq_append_getElem h1, h2])
   clear hcall hfa
   generalize s[j] = nj at hre Hcall Htake
   obtain ⟨i1, n1, r1, k1, s1⟩ := nj
   obtain ⟨v1, rfl, hs1⟩ := reads_nd.1 hre
   obtain ⟨sa1, cap1, rfl, _, _, _⟩ := reads_subs hs1
   clear hs1
   have ef : ∀ t c, [Value.int .i64 i1, .string n1, .int .i64 r1, .int .i64 k1, (.slice sa1 s1.length cap1)][t]? = some c → wr.cell? ⟨b, off + j * 5 + t, none⟩ = some c := fun t c ht => (hc.cell (p := ⟨b, off + j * 5 + t, none⟩) hbw (fun e => e)).trans (hcells t c ht)
   have e0 : wr.cell? ⟨b, off + j * 5, none⟩ = some (.int .i64 i1) := ef 0 _ rfl
   have e1 : wr.cell? ⟨b, off + j * 5 + 1, none⟩ = some (.string n1) := ef 1 _ rfl
   have e2 : wr.cell? ⟨b, off + j * 5 + 2, none⟩ = some (.int .i64 r1) := ef 2 _ rfl
   have e3 : wr.cell? ⟨b, off + j * 5 + 3, none⟩ = some (.int .i64 k1) := ef 3 _ rfl
   have e4 : wr.cell? ⟨b, off + j * 5 + 4, none⟩ = some (.slice sa1 s1.length cap1) := ef 4 _ rfl
   clear ef
   have g5 : wr.cell? ⟨w.heap.size + 2, 5, none⟩ = some v := hb2.cell 5
   have hobr := ho.block
   have hc02 := hc
   go_wp2_with fail
   refine wp_region_n (fun w' => w'.cell? ⟨b, off + j * 5, none⟩ = some (.int .i64 i1) ∧ w'.cell? ⟨b, off + j * 5 + 1, none⟩ = some (.string n1) ∧ w'.cell? ⟨b, off + j * 5 + 2, none⟩ = some (.int .i64 r1) ∧ w'.cell? ⟨b, off + j * 5 + 3, none⟩ = some (.int .i64 k1) ∧ w'.cell? ⟨b, off + j * 5 + 4, none⟩ = some (.slice sa1 s1.length cap1) ∧ w'.cell? ⟨w.heap.size + 2, 5, none⟩ = some v ∧ w'.cell? ⟨w.heap.size, 4, none⟩ = some (.slice (some ⟨b, off, none⟩) s.length cap)) [16] (by kernel_rfl) ?_ (fun hSh => ?_)
   ·exact ⟨e0, e1, e2, e3, e4, g5, c4⟩
   refine n_from 0 ?_
   intro htk
   iterate 12
    refine n_tB (v := ?_) htk rfl (Or.inl ⟨by rfl, ?_⟩) ?_
    rotate_left 1
    ·(intro w' hSw; (try dsimp only at hSw); go_simp; try with_reducible rfl)
    clear htk
    intro htk
    simp only [Nat.reduceAdd] at htk
    simp only [Act.put, qA, qB, qC, qD, qE, qF]
   clear htk
   refine n_step 12 rfl (by kernel_rfl) ?_
   go_wp2_with fail
   refine Hcall.out.mono ?_
   rintro e w3 ⟨ecs, rfl, hr3, hc3⟩
   replace hc3 := hc3.ofDrew
   generalize hX : someF (.mk i1 n1 r1 k1 s1) (p / 2 + (j : Nat) + 1) false = dx at hr3
   have HX := Lib.hid hX
   clear hX
   obtain ⟨b9, k9, m9, s9, l9, f9⟩ := dx
   obtain ⟨vl9, vf9, rfl, hs8, hs9⟩ := reads_dm.1 hr3
   obtain ⟨a8, c8, rfl, _, _, _⟩ := reads_data hs8
   obtain ⟨a9, c9, rfl, _, _, _⟩ := reads_data hs9
   clear hs8 hs9
   go_wp2_with fail
   refine ⟨fun _ => ?_, fun hSk => ?_⟩
   ·have hkk : ∀ p v, (wr).cell? p = some v → (w3).cell? p = some v := fun p v h => (hc3.cell (lt_of_cell h) nbE).trans h
    exact ⟨hkk _ _ e0, hkk _ _ e1, hkk _ _ e2, hkk _ _ e3, hkk _ _ e4, hkk _ _ g5, hkk _ _ c4⟩
   replace hSk := hSk (by rfl)
   refine n_step 13 rfl (by kernel_rfl) ?_
   go_wp2_with fail
   generalize hw4 : World.alloc w3 _ = w4
   have hc4 : Chg NoB w3 w4 := by
    rw [← hw4]
    repeat (first | exact Chg.refl _ _ | apply Chg.alloc | apply Chg.drew)
   have hbn : Blk w4 (w3.heap.size) ([.bool b9, .int .i64 k9, .int .i64 m9, .string s9, .slice a8 l9.length c8, .slice a9 f9.length c9]) 43 := by
    rw [← hw4]
    repeat (first | exact Blk.newAt (by first | rfl | (simp; done) | (simp; omega)) | apply Blk.alloc | apply Blk.drew)
   clear hw4
   have hc24 := hc3.tr hc4
   have hr4 := hr3.chg0 hc4
   have ho4 := ho.keep hc24 (fun _ _ e => nbE e) (fun _ _ e => nbE e)
   have hob := ho.block
   refine ⟨fun _ => ?_, fun hSk => ?_⟩
   ·have hkk : ∀ p v, (wr).cell? p = some v → (w4).cell? p = some v := fun p v h => (hc24.cell (lt_of_cell h) nbE).trans h
    exact ⟨hkk _ _ e0, hkk _ _ e1, hkk _ _ e2, hkk _ _ e3, hkk _ _ e4, hkk _ _ g5, hkk _ _ c4⟩
   replace hSk := hSk (by rfl)
   refine n_step 14 rfl (by kernel_rfl) ?_
   have hlA : (Dm.dts ((fillF s p 1).take j)).length = j := by rw [Dm.dts_eq, List.length_map, List.length_take, hfl]; omega
   refine wpList_own rfl (.tmp 72) (.tmp 84) 41 rfl (w.heap.size + 3) 43 Tryz.underlying41 infoDatum rfl (by decide) rfl ho4 rfl [Dm.dt (.mk b9 k9 m9 s9 l9 f9)] _ rfl (ReadsC.single rfl (hr4.mono ?_)) hbn.news (fun e => by cases e) ?_ ?_ ?_ ?_
   ·intro b hb
    have hb : wr.heap.size ≤ b := hb
    exact ⟨by omega, fun e => by have := (hob b e).2; omega⟩
   ·rw [hlA]; unfold maxLen; omega
   ·rw [hlA]; omega
   ·have := hc24.size; omega
   intro ao5 cap5 w5 ho5 hc5 hat5
   rw [hlA] at ho5 ⊢
   have hfarG : ¬ (v.ownBlock = some (w.heap.size + 2)) := fun e => by have := (hob _ e).1; omega
   have hfar1 : ¬ (v.ownBlock = some (w.heap.size + 1)) := fun e => by have := (hob _ e).1; omega
   have hfar0 : ¬ (v.ownBlock = some w.heap.size) := fun e => by have := (hob _ e).1; omega
   have hc05 : Chg NoB w w5 := (hc02.tr hc24).trans hc5 (fun b e => .inr (by have := (hob b e).1; omega))
   have hb05 := (hb0.keep hc24 nbE).keep hc5 hfar0
   have hb15 := (hb1.keep hc24 nbE).keep hc5 hfar1
   have hb25 := (hb2.keep hc24 nbE).keep hc5 hfarG
   have hc25 : Chg (fun b => v.ownBlock = some b) wr w5 := (hc24.mono (fun _ _ e => nbE e)).trans hc5 (fun _ e => .inl e)
   go_wp2_with fail
   refine ⟨fun _ => ?_, fun hSk => ?_⟩
   ·have hkk : ∀ p x, ¬ (v.ownBlock = some p.block) → (wr).cell? p = some x → (w5).cell? p = some x := fun p x hne h => (hc25.cell (lt_of_cell h) hne).trans h
    have hfarN : ¬ (v.ownBlock = some b) := fun e => by have := (hobr _ e).1; omega
    exact ⟨hkk _ _ hfarN e0, hkk _ _ hfarN e1, hkk _ _ hfarN e2, hkk _ _ hfarN e3, hkk _ _ hfarN e4, hkk _ _ hfarG g5, hkk _ _ hfar0 c4⟩
   replace hSk := hSk (by rfl)
   refine n_tA (v := ?_) 15 rfl (Or.inl ⟨by rfl, ?_⟩) ?_
   rotate_left 1
   ·(intro w' hSw; (try dsimp only at hSw); go_simp; try with_reducible rfl)
   simp only [Act.put, qA, qB, qC, qD, qE, qF]
   refine n_step 16 rfl (by kernel_rfl) ?_
   have o5 : w5.cell? ⟨w.heap.size + 2, 5, none⟩ = some v := hb25.cell 5
   have f5 : w5.frozen? ⟨w.heap.size + 2, 5, none⟩ = false := hb25.free 5
   go_wp2_with fail
   refine ⟨fun hx => absurd hx (by decide), fun _ => ?_⟩
   refine n_done (by kernel_rfl) ?_
   go_wp2_with fail
   go_roundw
   case rel =>
    refine ⟨j + 1, _, hlt, by go_num, hc05.setCell (.inr (by dsimp only; omega)) _, hb05.other (by dsimp only; omega) _, hb15.other (by dsimp only; omega) _, hb25.set 5 _, ?_⟩
    show Own _ _ _ _ _ _ (Dm.dts ((fillF s p 1).take (j + 1)))
    rw [Htake.out, Dm.dts_append, HX.out]
    exact ho5.setCell (fun b hb => by have hb : w.heap.size + 3 ≤ b := hb; dsimp only; omega) (by dsimp only; omega) _
   case measure => simp [intOf]; omega
  ·have hjl : j = s.length := by omega
   subst hjl
   have hltI : ¬ ((s.length : Int) < (s.length : Int)) := by omega
   rw [List.take_of_length_le (by omega)] at ho
   obtain ⟨ao, cap', hv⟩ := ho.form
   have hlm : (Dm.dts (fillF s p 1)).length = s.length := by rw [Dm.dts_eq, List.length_map, hfl]
   rw [hlm] at hv
   subst hv
   have c0 : wr.cell? ⟨w.heap.size + 2, 0, none⟩ = some (.bool false) := hb2.cell 0
   have c1 : wr.cell? ⟨w.heap.size + 2, 1, none⟩ = some (.int .i64 (0)) := hb2.cell 1
   have c2 : wr.cell? ⟨w.heap.size + 2, 2, none⟩ = some (.int .i64 (0)) := hb2.cell 2
   have c3 : wr.cell? ⟨w.heap.size + 2, 3, none⟩ = some (.string ⟨#[]⟩) := hb2.cell 3
   have c4 : wr.cell? ⟨w.heap.size + 2, 4, none⟩ = some (.slice none 0 0) := hb2.cell 4
   have c5 : wr.cell? ⟨w.heap.size + 2, 5, none⟩ = some (.slice ao s.length cap') := hb2.cell 5
   have d0 : wr.cell? ⟨w.heap.size + 1, 0, none⟩ = some (.bool false) := hb1.cell 0
   have d1 : wr.cell? ⟨w.heap.size + 1, 1, none⟩ = some (.int .i64 (0)) := hb1.cell 1
   have d2 : wr.cell? ⟨w.heap.size + 1, 2, none⟩ = some (.int .i64 (0)) := hb1.cell 2
   have d3 : wr.cell? ⟨w.heap.size + 1, 3, none⟩ = some (.string ⟨#[]⟩) := hb1.cell 3
   have d4 : wr.cell? ⟨w.heap.size + 1, 4, none⟩ = some (.slice none 0 0) := hb1.cell 4
   have d5 : wr.cell? ⟨w.heap.size + 1, 5, none⟩ = some (.slice none 0 0) := hb1.cell 5
   have f0 : wr.frozen? ⟨w.heap.size + 1, 0, none⟩ = false := hb1.free 0
   have f1 : wr.frozen? ⟨w.heap.size + 1, 1, none⟩ = false := hb1.free 1
   have f2 : wr.frozen? ⟨w.heap.size + 1, 2, none⟩ = false := hb1.free 2
   have f3 : wr.frozen? ⟨w.heap.size + 1, 3, none⟩ = false := hb1.free 3
   have f4 : wr.frozen? ⟨w.heap.size + 1, 4, none⟩ = false := hb1.free 4
   have f5 : wr.frozen? ⟨w.heap.size + 1, 5, none⟩ = false := hb1.free 5
   go_wp2_with fail
   have hbE := store6 hb1 (.bool false) (.int .i64 (0)) (.int .i64 (0)) (.string ⟨#[]⟩) (.slice none 0 0) (.slice ao s.length cap')
   have hsE := store6_chg wr (w.heap.size + 1) (.bool false) (.int .i64 (0)) (.int .i64 (0)) (.string ⟨#[]⟩) (.slice none 0 0) (.slice ao s.length cap')
   have hcE := hc.trans hsE (fun i e => .inr (by have e : i = w.heap.size + 1 := e; omega))
   generalize World.setCell (World.setCell (World.setCell (World.setCell (World.setCell (World.setCell wr ⟨w.heap.size + 1, 0, none⟩ (.bool false)) ⟨w.heap.size + 1, 1, none⟩ (.int .i64 (0))) ⟨w.heap.size + 1, 2, none⟩ (.int .i64 (0))) ⟨w.heap.size + 1, 3, none⟩ (.string ⟨#[]⟩)) ⟨w.heap.size + 1, 4, none⟩ (.slice none 0 0)) ⟨w.heap.size + 1, 5, none⟩ (.slice ao s.length cap') = wE at hbE hsE hcE ⊢
   have n0 : wE.cell? ⟨w.heap.size + 1, 0, none⟩ = some (.bool false) := hbE.cell 0
   have n1 : wE.cell? ⟨w.heap.size + 1, 1, none⟩ = some (.int .i64 (0)) := hbE.cell 1
   have n2 : wE.cell? ⟨w.heap.size + 1, 2, none⟩ = some (.int .i64 (0)) := hbE.cell 2
   have n3 : wE.cell? ⟨w.heap.size + 1, 3, none⟩ = some (.string ⟨#[]⟩) := hbE.cell 3
   have n4 : wE.cell? ⟨w.heap.size + 1, 4, none⟩ = some (.slice none 0 0) := hbE.cell 4
   have n5 : wE.cell? ⟨w.heap.size + 1, 5, none⟩ = some (.slice ao s.length cap') := hbE.cell 5
   refine bodyPost_ret (v := .agg #[.bool false, .int .i64 (0), .int .i64 (0), .string ⟨#[]⟩, .slice none 0 0, .slice ao s.length cap']) (by simp [results, Tryz.results35, go_sem, n0, n1, n2, n3, n4, n5]) rfl ?_
   refine ⟨_, rfl, reads_dm.2 ⟨_, _, rfl, nil_data _ _, ?_⟩, hcE⟩
   have hof := ho.keep hsE (fun b hb e => by have hb : w.heap.size + 3 ≤ b := hb; have e : b = w.heap.size + 1 := e; omega) (fun b hb e => by have := (ho.block b hb).1; have e : b = w.heap.size + 1 := e; omega)
   exact hof.reads (fun b hb => by have hb : w.heap.size + 3 ≤ b := hb; show w.heap.size ≤ b; omega) (fun b hb _ => by show w.heap.size ≤ b; omega) (by rw [hlm]; unfold maxLen; omega)
def deepN (n : Nd) (one : Bool) : Nat := 2 * n.weigh + (if one = true then 0 else 1)
theorem someR_any : ∀ (m : Nat) (n : Nd) (p : Int) (one : Bool) (w : World) (S : Nat → Prop) (cs : List Value), deepN n one ≤ m → Reads w S n.dt cs → FitF n → 0 ≤ p → (p ≤ 4000 ∨ (one = true ∧ p ≤ 5000)) →
  Calls Tryz.prog 35 #[.agg cs.toArray, .int .i64 p, .bool one] w (RetNew (someF n p one).dt w) := by
 intro m
 induction m with
 | zero =>
  intro n p one w S cs hm
  exfalso
  cases n
  unfold deepN at hm
  simp only [Nd.weigh] at hm
  omega
 | succ m ih =>
  intro n p one w S cs hm hr hfit hp0 hp1
  have hlen39 := hfit.len
  have hsubs : ∀ c ∈ n.sub, FitF c := fun c hc => hfit.sub hc
  obtain ⟨⟨hr1, hr3, hk0, hk5, hlf⟩, -⟩ : Shp n ∧ True := ⟨hfit.shape.here, trivial⟩
  have hself := hr
  obtain ⟨i, nm, r, k, s⟩ := n
  simp only [Nd.rep, Nd.kind, Nd.sub] at hr1 hr3 hk0 hk5 hlf hlen39 hsubs
  have hIH : ∀ c ∈ s, ∀ (q : Int) (w : World) (S : Nat → Prop) (cs : List Value), 0 ≤ q → q ≤ 4000 → Reads w S c.dt cs → Calls Tryz.prog 35 #[.agg cs.toArray, .int .i64 q, .bool false] w (RetNew (someF c q false).dt w) :=
   fun c hc q w S cs h0 h1 hr => ih c q false w S cs (by have := Nd.weigh_mem hc; unfold deepN at hm ⊢; simp only [Nd.weigh, Bool.false_eq_true, if_false] at hm ⊢; omega) hr (hsubs c hc) h0 (.inl h1)
  have HI := Lib.hid hIH
  have hI1 : one = false → ∀ (q : Int) (w : World) (S : Nat → Prop) (cs : List Value), 0 ≤ q → q ≤ 5000 → Reads w S (Nd.mk i nm r k s).dt cs → Calls Tryz.prog 35 #[.agg cs.toArray, .int .i64 q, .bool true] w (RetNew (someF (.mk i nm r k s) q true).dt w) :=
   fun h1 q w S cs h0 h2 hr => ih (.mk i nm r k s) q true w S cs (by subst h1; unfold deepN at hm ⊢; simp only [Bool.false_eq_true, if_false, if_true] at hm ⊢; omega) hr hfit h0 (.inr ⟨rfl, h2⟩)
  have HI1 := Lib.hid hI1
  clear hIH hI1 ih hm hsubs hfit
  have hp5 : p ≤ 5000 := by rcases hp1 with h | h <;> omega
  obtain ⟨sv, rfl, hs⟩ := reads_nd.1 hr
  obtain ⟨a, cap, rfl, hlen, hcap, hel⟩ := reads_subs hs
  clear hs hr
  unfold maxLen at hcap
  have e3 := mod_pos (k := 3) hp0
  have e2 := mod_pos (k := 2) hp0
  have e4 := div_pos2 (k := 2) hp0
  by_cases hA : r = 2 ∧ one = false ∧ p % 3 = 0
  ·obtain ⟨rfl, rfl, h3⟩ := hA
   rw [some_none rfl h3]
   unfold noneD
   rw [h3] at e3
   go_enter Tryz.func35, Tryz.ntmps35
   go_wp2_with fail
   generalize hw1 : World.alloc _ _ = w1
   have hc1 : Chg NoB w w1 := by
    rw [← hw1]
    repeat (first | exact Chg.refl _ _ | apply Chg.alloc | apply Chg.drew)
   have hbE : Blk w1 (w.heap.size + 1) (dmCells true 0 0 ⟨#[]⟩ (.slice none 0 0) (.slice none 0 0)) 43 := by
    rw [← hw1]
    repeat (first | exact Blk.newAt (by first | rfl | (simp; done) | (simp; omega)) | apply Blk.alloc | apply Blk.drew)
   clear hw1
   have n0 : w1.cell? ⟨w.heap.size + 1, 0, none⟩ = some (.bool true) := hbE.cell 0
   have n1 : w1.cell? ⟨w.heap.size + 1, 1, none⟩ = some (.int .i64 (0)) := hbE.cell 1
   have n2 : w1.cell? ⟨w.heap.size + 1, 2, none⟩ = some (.int .i64 (0)) := hbE.cell 2
   have n3 : w1.cell? ⟨w.heap.size + 1, 3, none⟩ = some (.string ⟨#[]⟩) := hbE.cell 3
   have n4 : w1.cell? ⟨w.heap.size + 1, 4, none⟩ = some (.slice none 0 0) := hbE.cell 4
   have n5 : w1.cell? ⟨w.heap.size + 1, 5, none⟩ = some (.slice none 0 0) := hbE.cell 5
   refine bodyPost_ret (v := .agg #[.bool true, .int .i64 (0), .int .i64 0, .string ⟨#[]⟩, .slice none 0 0, .slice none 0 0]) (by simp [results, Tryz.results35, go_sem, n0, n1, n2, n3, n4, n5]) rfl ?_
   exact ⟨_, rfl, reads_dm.2 ⟨_, _, rfl, nil_data _ _, nil_data _ _⟩, hc1⟩
  by_cases hB : r = 3 ∧ one = false
  ·obtain ⟨rfl, rfl⟩ := hB
   rw [some_list rfl]
   have hp4 : p ≤ 4000 := by rcases hp1 with h | ⟨h, _⟩; exact h; cases h
   have hN : ((p % 3).toNat : Int) = p.tmod 3 := by rw [e3]; omega
   have hN3 : (p % 3).toNat ≤ 2 := by omega
   generalize (p % 3).toNat = q at hN hN3 ⊢
   have hl3 := HI1.out rfl
   have Hl3 := Lib.hid hl3
   clear hl3 HI HI1
   go_enter Tryz.func35, Tryz.ntmps35
   go_wp2_with fail
   go_loopw [8] (fun vi wr => GrowRel w (w.heap.size + 2) (w.heap.size + 3) (ndCells i nm 3 k (.slice a s.length cap)) (fun v => dmCells false 0 0 ⟨#[]⟩ v (.slice none 0 0)) (fun j => (List.range j).map fun (t : Nat) => datF (.mk i nm 3 k s) (p + (t : Nat))) q vi wr) (fun vi _ => q - (intOf vi).toNat)
   case atStart =>
    refine ⟨0, _, Nat.zero_le _, rfl, ?_, ?_, ?_, ?_, by simpa [Dm.dts] using Own.nil _ _ _ _ _⟩
    ·exact (((Chg.refl _ _).alloc _).alloc _).alloc _
    ·exact ((Blk.newAt rfl).alloc _).alloc _
    ·exact (Blk.newAt (by simp)).alloc _
    ·exact Blk.newAt (by simp)
   case round =>
    obtain ⟨j, v, hj, rfl, hc, hb0, hb1, hb2, ho⟩ := hrel
    dsimp only at hb2 ho
    have hsz : w.heap.size + 3 ≤ wr.heap.size := hb2.lt
    by_cases hlt : j < q
    ·have hltI : (j : Int) < p.tmod 3 := by omega
     have y0 : wr.cell? ⟨w.heap.size, 0, none⟩ = some (.int .i64 (i)) := hb0.cell 0
     have y1 : wr.cell? ⟨w.heap.size, 1, none⟩ = some (.string nm) := hb0.cell 1
     have y2 : wr.cell? ⟨w.heap.size, 2, none⟩ = some (.int .i64 (3)) := hb0.cell 2
     have y3 : wr.cell? ⟨w.heap.size, 3, none⟩ = some (.int .i64 (k)) := hb0.cell 3
     have y4 : wr.cell? ⟨w.heap.size, 4, none⟩ = some (.slice a s.length cap) := hb0.cell 4
     have g4 : wr.cell? ⟨w.heap.size + 2, 4, none⟩ = some v := hb2.cell 4
     have hcall := Hl3.out (p + (j : Nat)) wr.drew S _ (by omega) (by omega) (hself.chg0 hc.drew)
     rw [some_one (.inr (.inl rfl))] at hcall
     have Hcall := Lib.hid hcall
     have Htake := Lib.hid (show (List.range (j + 1)).map (fun (t : Nat) => datF (.mk i nm 3 k s) (p + (t : Nat))) = (List.range j).map (fun (t : Nat) => datF (.mk i nm 3 k s) (p + (t : Nat))) ++ [datF (.mk i nm 3 k s) (p + (j : Nat))] by rw [List.range_succ, List.map_append]; rfl)
     clear hcall
     have hobr := ho.block
     have hc02 := hc
     go_wp2_with fail
     refine wp_region_n (fun w' => w'.cell? ⟨w.heap.size, 0, none⟩ = some (.int .i64 i) ∧ w'.cell? ⟨w.heap.size, 1, none⟩ = some (.string nm) ∧ w'.cell? ⟨w.heap.size, 2, none⟩ = some (.int .i64 3) ∧ w'.cell? ⟨w.heap.size, 3, none⟩ = some (.int .i64 k) ∧ w'.cell? ⟨w.heap.size, 4, none⟩ = some (.slice a s.length cap) ∧ w'.cell? ⟨w.heap.size + 2, 4, none⟩ = some v) [10] (by kernel_rfl) ?_ (fun hSh => ?_)
     ·exact ⟨y0, y1, y2, y3, y4, g4⟩
     refine n_from 0 ?_
     intro htk
     iterate 6
      refine n_tB (v := ?_) htk rfl (Or.inl ⟨by rfl, ?_⟩) ?_
      rotate_left 1
      ·(intro w' hSw; (try dsimp only at hSw); go_simp; try with_reducible rfl)
      clear htk
      intro htk
      simp only [Nat.reduceAdd] at htk
      simp only [Act.put, qA, qB, qC, qD, qE, qF]
     clear htk
     refine n_step 6 rfl (by kernel_rfl) ?_
     go_wp2_with fail
     refine Hcall.out.mono ?_
     rintro e w3 ⟨ecs, rfl, hr3, hc3⟩
     replace hc3 := hc3.ofDrew
     generalize hX : datF (.mk i nm 3 k s) (p + (j : Nat)) = dx at hr3
     have HX := Lib.hid hX
     clear hX
     obtain ⟨b9, k9, m9, s9, l9, f9⟩ := dx
     obtain ⟨vl9, vf9, rfl, hs8, hs9⟩ := reads_dm.1 hr3
     obtain ⟨a8, c8, rfl, _, _, _⟩ := reads_data hs8
     obtain ⟨a9, c9, rfl, _, _, _⟩ := reads_data hs9
     clear hs8 hs9
     go_wp2_with fail
     refine ⟨fun _ => ?_, fun hSk => ?_⟩
     ·have hkk : ∀ p v, (wr).cell? p = some v → (w3).cell? p = some v := fun p v h => (hc3.cell (lt_of_cell h) nbE).trans h
      exact ⟨hkk _ _ y0, hkk _ _ y1, hkk _ _ y2, hkk _ _ y3, hkk _ _ y4, hkk _ _ g4⟩
     replace hSk := hSk (by rfl)
     refine n_step 7 rfl (by kernel_rfl) ?_
     go_wp2_with fail
     generalize hw4 : World.alloc w3 _ = w4
     have hc4 : Chg NoB w3 w4 := by
      rw [← hw4]
      repeat (first | exact Chg.refl _ _ | apply Chg.alloc | apply Chg.drew)
     have hbn : Blk w4 (w3.heap.size) ([.bool b9, .int .i64 k9, .int .i64 m9, .string s9, .slice a8 l9.length c8, .slice a9 f9.length c9]) 43 := by
      rw [← hw4]
      repeat (first | exact Blk.newAt (by first | rfl | (simp; done) | (simp; omega)) | apply Blk.alloc | apply Blk.drew)
     clear hw4
     have hc24 := hc3.tr hc4
     have hr4 := hr3.chg0 hc4
     have ho4 := ho.keep hc24 (fun _ _ e => nbE e) (fun _ _ e => nbE e)
     have hob := ho.block
     refine ⟨fun _ => ?_, fun hSk => ?_⟩
     ·have hkk : ∀ p v, (wr).cell? p = some v → (w4).cell? p = some v := fun p v h => (hc24.cell (lt_of_cell h) nbE).trans h
      exact ⟨hkk _ _ y0, hkk _ _ y1, hkk _ _ y2, hkk _ _ y3, hkk _ _ y4, hkk _ _ g4⟩
     replace hSk := hSk (by rfl)
     refine n_step 8 rfl (by kernel_rfl) ?_
     have hlA : (Dm.dts ((List.range j).map (fun (t : Nat) => datF (.mk i nm 3 k s) (p + (t : Nat))))).length = j := by rw [Dm.dts_eq, List.length_map, List.length_map, List.length_range]
     refine wpList_own rfl (.tmp 38) (.tmp 44) 41 rfl (w.heap.size + 3) 43 Tryz.underlying41 infoDatum rfl (by decide) rfl ho4 rfl [Dm.dt (.mk b9 k9 m9 s9 l9 f9)] _ rfl (ReadsC.single rfl (hr4.mono ?_)) hbn.news (fun e => by cases e) ?_ ?_ ?_ ?_
     ·intro b hb
      have hb : wr.heap.size ≤ b := hb
      exact ⟨by omega, fun e => by have := (hob b e).2; omega⟩
     ·rw [hlA]; unfold maxLen; omega
     ·rw [hlA]; omega
     ·have := hc24.size; omega
     intro ao5 cap5 w5 ho5 hc5 hat5
     rw [hlA] at ho5 ⊢
     have hfarG : ¬ (v.ownBlock = some (w.heap.size + 2)) := fun e => by have := (hob _ e).1; omega
     have hfar1 : ¬ (v.ownBlock = some (w.heap.size + 1)) := fun e => by have := (hob _ e).1; omega
     have hfar0 : ¬ (v.ownBlock = some w.heap.size) := fun e => by have := (hob _ e).1; omega
     have hc05 : Chg NoB w w5 := (hc02.tr hc24).trans hc5 (fun b e => .inr (by have := (hob b e).1; omega))
     have hb05 := (hb0.keep hc24 nbE).keep hc5 hfar0
     have hb15 := (hb1.keep hc24 nbE).keep hc5 hfar1
     have hb25 := (hb2.keep hc24 nbE).keep hc5 hfarG
     have hc25 : Chg (fun b => v.ownBlock = some b) wr w5 := (hc24.mono (fun _ _ e => nbE e)).trans hc5 (fun _ e => .inl e)
     go_wp2_with fail
     refine ⟨fun _ => ?_, fun hSk => ?_⟩
     ·have hkk : ∀ p x, ¬ (v.ownBlock = some p.block) → (wr).cell? p = some x → (w5).cell? p = some x := fun p x hne h => (hc25.cell (lt_of_cell h) hne).trans h
      exact ⟨hkk _ _ hfar0 y0, hkk _ _ hfar0 y1, hkk _ _ hfar0 y2, hkk _ _ hfar0 y3, hkk _ _ hfar0 y4, hkk _ _ hfarG g4⟩
     replace hSk := hSk (by rfl)
     refine n_tA (v := ?_) 9 rfl (Or.inl ⟨by rfl, ?_⟩) ?_
     rotate_left 1
     ·(intro w' hSw; (try dsimp only at hSw); go_simp; try with_reducible rfl)
     simp only [Act.put, qA, qB, qC, qD, qE, qF]
     refine n_step 10 rfl (by kernel_rfl) ?_
     have o4 : w5.cell? ⟨w.heap.size + 2, 4, none⟩ = some v := hb25.cell 4
     have f4 : w5.frozen? ⟨w.heap.size + 2, 4, none⟩ = false := hb25.free 4
     go_wp2_with fail
     refine ⟨fun hx => absurd hx (by decide), fun _ => ?_⟩
     refine n_done (by kernel_rfl) ?_
     go_wp2_with fail
     go_roundw
     case rel =>
      refine ⟨j + 1, _, hlt, by go_num, hc05.setCell (.inr (by dsimp only; omega)) _, hb05.other (by dsimp only; omega) _, hb15.other (by dsimp only; omega) _, hb25.set 4 _, ?_⟩
      show Own _ _ _ _ _ _ (Dm.dts ((List.range (j + 1)).map (fun (t : Nat) => datF (.mk i nm 3 k s) (p + (t : Nat)))))
      rw [Htake.out, Dm.dts_append, HX.out]
      exact ho5.setCell (fun b hb => by have hb : w.heap.size + 3 ≤ b := hb; dsimp only; omega) (by dsimp only; omega) _
     case measure => simp [intOf]; omega
    ·have hjl : j = q := by omega
     subst hjl
     have hltI : ¬ ((j : Int) < p.tmod 3) := by omega
     obtain ⟨ao, cap', hv⟩ := ho.form
     have hlm : (Dm.dts ((List.range j).map (fun (t : Nat) => datF (.mk i nm 3 k s) (p + (t : Nat))))).length = j := by rw [Dm.dts_eq, List.length_map, List.length_map, List.length_range]
     rw [hlm] at hv
     subst hv
     have c0 : wr.cell? ⟨w.heap.size + 2, 0, none⟩ = some (.bool false) := hb2.cell 0
     have c1 : wr.cell? ⟨w.heap.size + 2, 1, none⟩ = some (.int .i64 (0)) := hb2.cell 1
     have c2 : wr.cell? ⟨w.heap.size + 2, 2, none⟩ = some (.int .i64 (0)) := hb2.cell 2
     have c3 : wr.cell? ⟨w.heap.size + 2, 3, none⟩ = some (.string ⟨#[]⟩) := hb2.cell 3
     have c4 : wr.cell? ⟨w.heap.size + 2, 4, none⟩ = some (.slice ao j cap') := hb2.cell 4
     have c5 : wr.cell? ⟨w.heap.size + 2, 5, none⟩ = some (.slice none 0 0) := hb2.cell 5
     have d0 : wr.cell? ⟨w.heap.size + 1, 0, none⟩ = some (.bool false) := hb1.cell 0
     have d1 : wr.cell? ⟨w.heap.size + 1, 1, none⟩ = some (.int .i64 (0)) := hb1.cell 1
     have d2 : wr.cell? ⟨w.heap.size + 1, 2, none⟩ = some (.int .i64 (0)) := hb1.cell 2
     have d3 : wr.cell? ⟨w.heap.size + 1, 3, none⟩ = some (.string ⟨#[]⟩) := hb1.cell 3
     have d4 : wr.cell? ⟨w.heap.size + 1, 4, none⟩ = some (.slice none 0 0) := hb1.cell 4
     have d5 : wr.cell? ⟨w.heap.size + 1, 5, none⟩ = some (.slice none 0 0) := hb1.cell 5
     have f0 : wr.frozen? ⟨w.heap.size + 1, 0, none⟩ = false := hb1.free 0
     have f1 : wr.frozen? ⟨w.heap.size + 1, 1, none⟩ = false := hb1.free 1
     have f2 : wr.frozen? ⟨w.heap.size + 1, 2, none⟩ = false := hb1.free 2
     have f3 : wr.frozen? ⟨w.heap.size + 1, 3, none⟩ = false := hb1.free 3
     have f4 : wr.frozen? ⟨w.heap.size + 1, 4, none⟩ = false := hb1.free 4
     have f5 : wr.frozen? ⟨w.heap.size + 1, 5, none⟩ = false := hb1.free 5
     go_wp2_with fail
     have hbE := store6 hb1 (.bool false) (.int .i64 (0)) (.int .i64 (0)) (.string ⟨#[]⟩) (.slice ao j cap') (.slice none 0 0)
     have hsE := store6_chg wr (w.heap.size + 1) (.bool false) (.int .i64 (0)) (.int .i64 (0)) (.string ⟨#[]⟩) (.slice ao j cap') (.slice none 0 0)
     have hcE := hc.trans hsE (fun i e => .inr (by have e : i = w.heap.size + 1 := e; omega))
     generalize World.setCell (World.setCell (World.setCell (World.setCell (World.setCell (World.setCell wr ⟨w.heap.size + 1, 0, none⟩ (.bool false)) ⟨w.heap.size + 1, 1, none⟩ (.int .i64 (0))) ⟨w.heap.size + 1, 2, none⟩ (.int .i64 (0))) ⟨w.heap.size + 1, 3, none⟩ (.string ⟨#[]⟩)) ⟨w.heap.size + 1, 4, none⟩ (.slice ao j cap')) ⟨w.heap.size + 1, 5, none⟩ (.slice none 0 0) = wE at hbE hsE hcE ⊢
     have n0 : wE.cell? ⟨w.heap.size + 1, 0, none⟩ = some (.bool false) := hbE.cell 0
     have n1 : wE.cell? ⟨w.heap.size + 1, 1, none⟩ = some (.int .i64 (0)) := hbE.cell 1
     have n2 : wE.cell? ⟨w.heap.size + 1, 2, none⟩ = some (.int .i64 (0)) := hbE.cell 2
     have n3 : wE.cell? ⟨w.heap.size + 1, 3, none⟩ = some (.string ⟨#[]⟩) := hbE.cell 3
     have n4 : wE.cell? ⟨w.heap.size + 1, 4, none⟩ = some (.slice ao j cap') := hbE.cell 4
     have n5 : wE.cell? ⟨w.heap.size + 1, 5, none⟩ = some (.slice none 0 0) := hbE.cell 5
     refine bodyPost_ret (v := .agg #[.bool false, .int .i64 (0), .int .i64 (0), .string ⟨#[]⟩, .slice ao j cap', .slice none 0 0]) (by simp [results, Tryz.results35, go_sem, n0, n1, n2, n3, n4, n5]) rfl ?_
     refine ⟨_, rfl, reads_dm.2 ⟨_, _, rfl, ?_, nil_data _ _⟩, hcE⟩
     have hof := ho.keep hsE (fun b hb e => by have hb : w.heap.size + 3 ≤ b := hb; have e : b = w.heap.size + 1 := e; omega) (fun b hb e => by have := (ho.block b hb).1; have e : b = w.heap.size + 1 := e; omega)
     exact hof.reads (fun b hb => by have hb : w.heap.size + 3 ≤ b := hb; show w.heap.size ≤ b; omega) (fun b hb _ => by show w.heap.size ≤ b; omega) (by rw [hlm]; unfold maxLen; omega)
  rw [some_one (n := .mk i nm r k s) (by simp only [Nd.rep]; cases one <;> simp_all <;> omega)]
  have hcs : Grd r p one := by
   unfold Grd
   simp only [beq_eq_false_iff_ne, beq_iff_eq, ne_eq]
   rw [e3]
   obtain rfl | rfl | rfl : r = 1 ∨ r = 2 ∨ r = 3 := by omega
   all_goals cases one <;> simp_all
  clear HI1 hself hA hB
  by_cases hk4 : k = 4
  ·have hs0 := hlf (by omega)
   subst hs0
   subst hk4
   rw [show datF (.mk i nm r 4 []) p = .mk false 4 0 ⟨(Lib.itoa p).toArray⟩ [] [] from by simp [datF]]
   exact someR_four i nm r p one a cap w hp0 hp5 hcs
  by_cases hk : k = 0
  case neg =>
   have hs0 := hlf hk
   subst hs0
   rw [show datF (.mk i nm r k []) p = .mk false k (p % 2) ⟨#[]⟩ [] [] from by simp [datF, hk, hk4]]
   exact someR_leaf i nm r k p one a cap w hp0 hp5 hcs hk hk4
  subst hk
  rw [show datF (.mk i nm r 0 s) p = .mk false 0 0 ⟨#[]⟩ [] (fillF s p 1) from by simp [datF]]
  exact someR_group i nm r p one s a cap w S hp0 hp5 hcs hlen39 hcap hel HI.out
end Go.Proofs.YtgcmfpcgmkkobaaGreatDoor
