/-
  file.Open.
-/
import Derived.Test.YtkchmgjmecojcaaGreatDoorFtRes
import Derived.Test.YtkchmgjmecojcaaGreatDoorParts
import Derived.Test.YtkchmgjmecojcaaGreatDoorSumR
import Derived.Test.YtkchmgjmecojcaaGreatDoorShredNil
import Derived.Test.YtkchmgjmecojcaaGreatDoorFindLaw
set_option linter.unusedVariables false
set_option maxHeartbeats 20000000
set_option maxRecDepth 100000
set_option linter.unusedSimpArgs false
namespace Go.Proofs.YtkchmgjmecojcaaGreatDoor
open Go.RowKit
def errE (A : Nat → Addr) (e : Nat) : Ending := .returned (.tuple #[zeroFt, sv (A (e - 1))])
theorem fOpen_any (l : List UInt8) (w : World) (A : Nat → Addr) (E : Er → Value) (N : Value) (hG : Glo w.heap.size E w) (hA : Named w A E N) (hb : l.length ≤ 9000000000000000000) :
  Calls Tryz.prog 9 #[.string ⟨l.toArray⟩] w (RetFt (errE A) .nilIface (openF l) w) := by
 have hS := hA.sents
 have hltE : (1 : Nat) < w.heap.size := lt_cell (hS.cell 0 1 rfl)
 go_enter Tryz.func9, Tryz.ntmps9
 go_wp2_with fail
 generalize hw1 : World.alloc _ _ = w1
 have hc1 : Chg NoB w w1 := by
  rw [← hw1]
  repeat (first | exact Chg.refl _ _ | apply Chg.alloc | apply Chg.drew)
 have hb1 : Blk w1 (w.heap.size) ([.int .i64 0, .string ⟨#[]⟩, .int .i64 0, .int .i64 0, .slice none 0 0, .slice none 0 0, .int .i64 0]) 37 := by
  rw [← hw1]
  repeat (first | exact Blk.newAt (by first | rfl | (simp; done) | (simp; omega)) | apply Blk.alloc | apply Blk.drew)
 clear hw1
 refine (foot_any l w1 A (hS.keep0 hc1) hb).mono ?_
 rintro en w2 ⟨hc2, hm2⟩
 have hb2 := hb1.keep hc2 nbE
 have hc02 := hc1.tr hc2
 cases hf : footF l with
 | bad e =>
  rw [hf] at hm2
  obtain rfl := hm2
  have Hf := Lib.hid hf
  clear hf
  simp only [sv]
  have z0 : w2.frozen? ⟨w.heap.size, 0, none⟩ = false := hb2.free 0
  have z1 : w2.frozen? ⟨w.heap.size, 1, none⟩ = false := hb2.free 1
  have z2 : w2.frozen? ⟨w.heap.size, 2, none⟩ = false := hb2.free 2
  have z3 : w2.frozen? ⟨w.heap.size, 3, none⟩ = false := hb2.free 3
  have z4 : w2.frozen? ⟨w.heap.size, 4, none⟩ = false := hb2.free 4
  have z5 : w2.frozen? ⟨w.heap.size, 5, none⟩ = false := hb2.free 5
  have z6 : w2.frozen? ⟨w.heap.size, 6, none⟩ = false := hb2.free 6
  have y0 : w2.cell? ⟨w.heap.size, 0, none⟩ = some (.int .i64 (0)) := hb2.cell 0
  have y1 : w2.cell? ⟨w.heap.size, 1, none⟩ = some (.string ⟨#[]⟩) := hb2.cell 1
  have y2 : w2.cell? ⟨w.heap.size, 2, none⟩ = some (.int .i64 (0)) := hb2.cell 2
  have y3 : w2.cell? ⟨w.heap.size, 3, none⟩ = some (.int .i64 (0)) := hb2.cell 3
  have y4 : w2.cell? ⟨w.heap.size, 4, none⟩ = some (.slice none 0 0) := hb2.cell 4
  have y5 : w2.cell? ⟨w.heap.size, 5, none⟩ = some (.slice none 0 0) := hb2.cell 5
  have y6 : w2.cell? ⟨w.heap.size, 6, none⟩ = some (.int .i64 (0)) := hb2.cell 6
  go_wp2_with fail
  have hbE := store7 hb2 (.int .i64 (0)) (.string ⟨#[]⟩) (.int .i64 (0)) (.int .i64 (0)) (.slice none 0 0) (.slice none 0 0) (.int .i64 (0))
  have hsE := store7_chg w2 (w.heap.size) (.int .i64 (0)) (.string ⟨#[]⟩) (.int .i64 (0)) (.int .i64 (0)) (.slice none 0 0) (.slice none 0 0) (.int .i64 (0))
  have hcE := hc02.trans hsE (fun i e => .inr (by have e : i = w.heap.size := e; omega))
  generalize World.setCell (World.setCell (World.setCell (World.setCell (World.setCell (World.setCell (World.setCell w2 ⟨w.heap.size, 0, none⟩ (.int .i64 (0))) ⟨w.heap.size, 1, none⟩ (.string ⟨#[]⟩)) ⟨w.heap.size, 2, none⟩ (.int .i64 (0))) ⟨w.heap.size, 3, none⟩ (.int .i64 (0))) ⟨w.heap.size, 4, none⟩ (.slice none 0 0)) ⟨w.heap.size, 5, none⟩ (.slice none 0 0)) ⟨w.heap.size, 6, none⟩ (.int .i64 (0)) = wE at hbE hsE hcE ⊢
  have n0 : wE.cell? ⟨w.heap.size, 0, none⟩ = some (.int .i64 (0)) := hbE.cell 0
  have n1 : wE.cell? ⟨w.heap.size, 1, none⟩ = some (.string ⟨#[]⟩) := hbE.cell 1
  have n2 : wE.cell? ⟨w.heap.size, 2, none⟩ = some (.int .i64 (0)) := hbE.cell 2
  have n3 : wE.cell? ⟨w.heap.size, 3, none⟩ = some (.int .i64 (0)) := hbE.cell 3
  have n4 : wE.cell? ⟨w.heap.size, 4, none⟩ = some (.slice none 0 0) := hbE.cell 4
  have n5 : wE.cell? ⟨w.heap.size, 5, none⟩ = some (.slice none 0 0) := hbE.cell 5
  have n6 : wE.cell? ⟨w.heap.size, 6, none⟩ = some (.int .i64 (0)) := hbE.cell 6
  refine bodyPost_ret (v := .tuple #[zeroFt, .iface 298 (.pointer (some (A (e - 1))))]) (by first | exact resOpenOf rfl rfl n0 n1 n2 n3 n4 n5 n6 | exact resOpen rfl rfl n0 n1 n2 n3 n4 n5 n6) rfl ?_
  rw [open_foot Hf.out]
  exact ⟨hcE, rfl⟩
 | ok n =>
  rw [hf] at hm2
  obtain rfl := hm2
  have hfle := foot_le hf
  have hfl := footText_length hfle.1
  have Hf := Lib.hid hf
  have Hfl := Lib.hid hfl
  clear hf hfl
  go_wp2_with fail
  refine (entries_any (footText l n) w2 _ ⟨_, _, rfl⟩ ((hS.keep0 hc02).cell 0 _ rfl) (by rw [Hfl.out]; omega)).mono ?_
  rintro en w3 ⟨hc3, hm3⟩
  rw [Hfl.out] at hm3
  have hb3 := hb2.keep hc3 nbE
  have hc03 := hc02.tr hc3
  have hG3 := (hG.keep0 hc03).upTo hc03.size
  have hce3 := (hS.keep0 hc03).cell 0 1 rfl
  simp only [sv] at hce3
  cases he : entF (n + 1) 0 [] [] (footText l n) with
  | none =>
   rw [he] at hm3
   obtain ⟨t, g, ht, rfl⟩ := hm3
   have He := Lib.hid he
   clear he
   go_wp2_with fail
   refine (read_short ⟨t.toArray⟩ w3 E hG3 (by rw [siz_list]; omega)).mono ?_
   rintro en w4 ⟨hc4, hm4⟩
   obtain ⟨i4, nm4, r4, k4, a4, n4, c4, ev4, rfl⟩ := read_any5 hm4
   clear hm4
   have hb4 := hb3.keep hc4 nbE
   have hc04 := hc03.tr hc4
   have hce4 := (hc4.cell (lt_cell hce3) nbE).trans hce3
   go_wp2_with fail
   generalize hw5 : World.alloc _ _ = w5
   have hc5 : Chg NoB w4 w5 := by
    rw [← hw5]
    repeat (first | exact Chg.refl _ _ | apply Chg.alloc | apply Chg.drew)
   clear hw5
   have hb5 := hb4.keep hc5 nbE
   have hc05 := hc04.tr hc5
   have hce5 := (hc5.cell (lt_cell hce4) nbE).trans hce4
   refine wp_region_n (fun w' => w'.cell? ⟨1, 0, none⟩ = some (.iface 298 (.pointer (some (A 0))))) [3] (by kernel_rfl) ?_ (fun hSh => ?_)
   ·exact hce5
   refine n_tA (v := ?_) 0 rfl (Or.inl ⟨by rfl, ?_⟩) ?_
   rotate_left 1
   ·(intro w' hSw; (try dsimp only at hSw); go_simp; try with_reducible rfl)
   simp only [Act.put, qA, qB, qC, qD, qE, qF]
   refine n_tA (v := ?_) 1 rfl (Or.inl ⟨by rfl, ?_⟩) ?_
   rotate_left 1
   ·(intro w' hSw; (try dsimp only at hSw); go_simp; try with_reducible rfl)
   simp only [Act.put, qA, qB, qC, qD, qE, qF]
   have z0 : w5.frozen? ⟨w.heap.size, 0, none⟩ = false := hb5.free 0
   have z1 : w5.frozen? ⟨w.heap.size, 1, none⟩ = false := hb5.free 1
   have z2 : w5.frozen? ⟨w.heap.size, 2, none⟩ = false := hb5.free 2
   have z3 : w5.frozen? ⟨w.heap.size, 3, none⟩ = false := hb5.free 3
   have z4 : w5.frozen? ⟨w.heap.size, 4, none⟩ = false := hb5.free 4
   have z5 : w5.frozen? ⟨w.heap.size, 5, none⟩ = false := hb5.free 5
   have z6 : w5.frozen? ⟨w.heap.size, 6, none⟩ = false := hb5.free 6
   have y0 : w5.cell? ⟨w.heap.size, 0, none⟩ = some (.int .i64 (0)) := hb5.cell 0
   have y1 : w5.cell? ⟨w.heap.size, 1, none⟩ = some (.string ⟨#[]⟩) := hb5.cell 1
   have y2 : w5.cell? ⟨w.heap.size, 2, none⟩ = some (.int .i64 (0)) := hb5.cell 2
   have y3 : w5.cell? ⟨w.heap.size, 3, none⟩ = some (.int .i64 (0)) := hb5.cell 3
   have y4 : w5.cell? ⟨w.heap.size, 4, none⟩ = some (.slice none 0 0) := hb5.cell 4
   have y5 : w5.cell? ⟨w.heap.size, 5, none⟩ = some (.slice none 0 0) := hb5.cell 5
   have y6 : w5.cell? ⟨w.heap.size, 6, none⟩ = some (.int .i64 (0)) := hb5.cell 6
   refine n_step 2 rfl (by kernel_rfl) ?_
   go_wp2_with fail
   refine ⟨fun _ => ((store7_chg w5 w.heap.size _ _ _ _ _ _ _).drew.cell (lt_cell hce5) (fun e => by have e : 1 = w.heap.size := e; omega)).trans hce5, fun hSk => ?_⟩
   refine n_step 3 rfl (by kernel_rfl) ?_
   go_wp2_with fail
   refine ⟨fun hx => absurd hx (by decide), fun _ => ?_⟩
   refine n_done (by kernel_rfl) ?_
   go_wp2_with fail
   have hbE := store7 hb5 (.int .i64 (0)) (.string ⟨#[]⟩) (.int .i64 (0)) (.int .i64 (0)) (.slice none 0 0) (.slice none 0 0) (.int .i64 (0))
   have hsE := store7_chg w5 (w.heap.size) (.int .i64 (0)) (.string ⟨#[]⟩) (.int .i64 (0)) (.int .i64 (0)) (.slice none 0 0) (.slice none 0 0) (.int .i64 (0))
   have hcE := hc05.trans hsE (fun i e => .inr (by have e : i = w.heap.size := e; omega))
   generalize World.setCell (World.setCell (World.setCell (World.setCell (World.setCell (World.setCell (World.setCell w5 ⟨w.heap.size, 0, none⟩ (.int .i64 (0))) ⟨w.heap.size, 1, none⟩ (.string ⟨#[]⟩)) ⟨w.heap.size, 2, none⟩ (.int .i64 (0))) ⟨w.heap.size, 3, none⟩ (.int .i64 (0))) ⟨w.heap.size, 4, none⟩ (.slice none 0 0)) ⟨w.heap.size, 5, none⟩ (.slice none 0 0)) ⟨w.heap.size, 6, none⟩ (.int .i64 (0)) = wE at hbE hsE hcE ⊢
   have n0 : wE.cell? ⟨w.heap.size, 0, none⟩ = some (.int .i64 (0)) := hbE.cell 0
   have n1 : wE.cell? ⟨w.heap.size, 1, none⟩ = some (.string ⟨#[]⟩) := hbE.cell 1
   have n2 : wE.cell? ⟨w.heap.size, 2, none⟩ = some (.int .i64 (0)) := hbE.cell 2
   have n3 : wE.cell? ⟨w.heap.size, 3, none⟩ = some (.int .i64 (0)) := hbE.cell 3
   have n4 : wE.cell? ⟨w.heap.size, 4, none⟩ = some (.slice none 0 0) := hbE.cell 4
   have n5 : wE.cell? ⟨w.heap.size, 5, none⟩ = some (.slice none 0 0) := hbE.cell 5
   have n6 : wE.cell? ⟨w.heap.size, 6, none⟩ = some (.int .i64 (0)) := hbE.cell 6
   refine bodyPost_ret (v := .tuple #[zeroFt, .iface 298 (.pointer (some (A 0)))]) (by first | exact resOpenOf rfl rfl n0 n1 n2 n3 n4 n5 n6 | exact resOpen rfl rfl n0 n1 n2 n3 n4 n5 n6) rfl ?_
   rw [open_ent Hf.out He.out]
   exact ⟨hcE.drew, rfl⟩
  | some p =>
   obtain ⟨t, g⟩ := p
   rw [he] at hm3
   obtain ⟨ht, hg, rfl⟩ := hm3
   have He := Lib.hid he
   clear he
   go_wp2_with fail
   refine (read_short ⟨t.toArray⟩ w3 E hG3 (by rw [siz_list]; omega)).mono ?_
   rintro en w4 ⟨hc4, hm4⟩
   have hb4 := hb3.keep hc4 nbE
   have hc04 := hc03.tr hc4
   have hce4 := (hc4.cell (lt_cell hce3) nbE).trans hce3
   cases hok : (readF ⟨t.toArray⟩).isOk with
   | false =>
    obtain ⟨T4, v4, rfl⟩ := read_no hok hm4
    have Hok := Lib.hid hok
    clear hm4 hok
    go_wp2_with fail
    generalize hw5 : World.alloc _ _ = w5
    have hc5 : Chg NoB w4 w5 := by
     rw [← hw5]
     repeat (first | exact Chg.refl _ _ | apply Chg.alloc | apply Chg.drew)
    clear hw5
    have hb5 := hb4.keep hc5 nbE
    have hc05 := hc04.tr hc5
    have hce5 := (hc5.cell (lt_cell hce4) nbE).trans hce4
    refine wp_region_n (fun w' => w'.cell? ⟨1, 0, none⟩ = some (.iface 298 (.pointer (some (A 0))))) [3] (by kernel_rfl) ?_ (fun hSh => ?_)
    ·exact hce5
    refine n_tA (v := ?_) 0 rfl (Or.inl ⟨by rfl, ?_⟩) ?_
    rotate_left 1
    ·(intro w' hSw; (try dsimp only at hSw); go_simp; try with_reducible rfl)
    simp only [Act.put, qA, qB, qC, qD, qE, qF]
    refine n_tA (v := ?_) 1 rfl (Or.inl ⟨by rfl, ?_⟩) ?_
    rotate_left 1
    ·(intro w' hSw; (try dsimp only at hSw); go_simp; try with_reducible rfl)
    simp only [Act.put, qA, qB, qC, qD, qE, qF]
    have z0 : w5.frozen? ⟨w.heap.size, 0, none⟩ = false := hb5.free 0
    have z1 : w5.frozen? ⟨w.heap.size, 1, none⟩ = false := hb5.free 1
    have z2 : w5.frozen? ⟨w.heap.size, 2, none⟩ = false := hb5.free 2
    have z3 : w5.frozen? ⟨w.heap.size, 3, none⟩ = false := hb5.free 3
    have z4 : w5.frozen? ⟨w.heap.size, 4, none⟩ = false := hb5.free 4
    have z5 : w5.frozen? ⟨w.heap.size, 5, none⟩ = false := hb5.free 5
    have z6 : w5.frozen? ⟨w.heap.size, 6, none⟩ = false := hb5.free 6
    have y0 : w5.cell? ⟨w.heap.size, 0, none⟩ = some (.int .i64 (0)) := hb5.cell 0
    have y1 : w5.cell? ⟨w.heap.size, 1, none⟩ = some (.string ⟨#[]⟩) := hb5.cell 1
    have y2 : w5.cell? ⟨w.heap.size, 2, none⟩ = some (.int .i64 (0)) := hb5.cell 2
    have y3 : w5.cell? ⟨w.heap.size, 3, none⟩ = some (.int .i64 (0)) := hb5.cell 3
    have y4 : w5.cell? ⟨w.heap.size, 4, none⟩ = some (.slice none 0 0) := hb5.cell 4
    have y5 : w5.cell? ⟨w.heap.size, 5, none⟩ = some (.slice none 0 0) := hb5.cell 5
    have y6 : w5.cell? ⟨w.heap.size, 6, none⟩ = some (.int .i64 (0)) := hb5.cell 6
    refine n_step 2 rfl (by kernel_rfl) ?_
    go_wp2_with fail
    refine ⟨fun _ => ((store7_chg w5 w.heap.size _ _ _ _ _ _ _).drew.cell (lt_cell hce5) (fun e => by have e : 1 = w.heap.size := e; omega)).trans hce5, fun hSk => ?_⟩
    refine n_step 3 rfl (by kernel_rfl) ?_
    go_wp2_with fail
    refine ⟨fun hx => absurd hx (by decide), fun _ => ?_⟩
    refine n_done (by kernel_rfl) ?_
    go_wp2_with fail
    have hbE := store7 hb5 (.int .i64 (0)) (.string ⟨#[]⟩) (.int .i64 (0)) (.int .i64 (0)) (.slice none 0 0) (.slice none 0 0) (.int .i64 (0))
    have hsE := store7_chg w5 (w.heap.size) (.int .i64 (0)) (.string ⟨#[]⟩) (.int .i64 (0)) (.int .i64 (0)) (.slice none 0 0) (.slice none 0 0) (.int .i64 (0))
    have hcE := hc05.trans hsE (fun i e => .inr (by have e : i = w.heap.size := e; omega))
    generalize World.setCell (World.setCell (World.setCell (World.setCell (World.setCell (World.setCell (World.setCell w5 ⟨w.heap.size, 0, none⟩ (.int .i64 (0))) ⟨w.heap.size, 1, none⟩ (.string ⟨#[]⟩)) ⟨w.heap.size, 2, none⟩ (.int .i64 (0))) ⟨w.heap.size, 3, none⟩ (.int .i64 (0))) ⟨w.heap.size, 4, none⟩ (.slice none 0 0)) ⟨w.heap.size, 5, none⟩ (.slice none 0 0)) ⟨w.heap.size, 6, none⟩ (.int .i64 (0)) = wE at hbE hsE hcE ⊢
    have n0 : wE.cell? ⟨w.heap.size, 0, none⟩ = some (.int .i64 (0)) := hbE.cell 0
    have n1 : wE.cell? ⟨w.heap.size, 1, none⟩ = some (.string ⟨#[]⟩) := hbE.cell 1
    have n2 : wE.cell? ⟨w.heap.size, 2, none⟩ = some (.int .i64 (0)) := hbE.cell 2
    have n3 : wE.cell? ⟨w.heap.size, 3, none⟩ = some (.int .i64 (0)) := hbE.cell 3
    have n4 : wE.cell? ⟨w.heap.size, 4, none⟩ = some (.slice none 0 0) := hbE.cell 4
    have n5 : wE.cell? ⟨w.heap.size, 5, none⟩ = some (.slice none 0 0) := hbE.cell 5
    have n6 : wE.cell? ⟨w.heap.size, 6, none⟩ = some (.int .i64 (0)) := hbE.cell 6
    refine bodyPost_ret (v := .tuple #[zeroFt, .iface 298 (.pointer (some (A 0)))]) (by first | exact resOpenOf rfl rfl n0 n1 n2 n3 n4 n5 n6 | exact resOpen rfl rfl n0 n1 n2 n3 n4 n5 n6) rfl ?_
    rw [open_read Hf.out He.out Hok.out]
    exact ⟨hcE.drew, rfl⟩
   | true =>
    cases hr : readF ⟨t.toArray⟩ with
    | er e => rw [hr] at hok; cases hok
    | bad e q => rw [hr] at hok; cases hok
    | ok root =>
     rw [hr] at hm4
     obtain ⟨cs4, rfl, hrd4⟩ := hm4
     obtain ⟨hrok, hrv⟩ := read_valid hr
     have hlk := leaves_le hrv
     obtain ⟨i, nm, r, k, sb⟩ := root
     have hrd4' := hrd4
     obtain ⟨sv4, rfl, hs4⟩ := reads_nd.1 hrd4'
     obtain ⟨a4, cap4, rfl, _, _, _⟩ := reads_subs hs4
     have Hr := Lib.hid hr
     clear hr hok
     go_wp2_with fail
     generalize hw5 : World.alloc _ _ = w5
     have hc5 : Chg NoB w4 w5 := by
      rw [← hw5]
      repeat (first | exact Chg.refl _ _ | apply Chg.alloc | apply Chg.drew)
     have hx5 : Blk w5 (w4.heap.size) (ndCells i nm r k (.slice a4 sb.length cap4)) 33 := by
      rw [← hw5]
      repeat (first | exact Blk.newAt (by first | rfl | (simp; done) | (simp; omega)) | apply Blk.alloc | apply Blk.drew)
     clear hw5
     have hb5 := hb4.keep hc5 nbE
     have hc05 := hc04.tr hc5
     have hE5 := (hG.keep0 hc05).errs
     have hrd5 := (hrd4.lt).chg0 hc5
     refine (leavesAll_any (.mk i nm r k sb) w5 _ _ E hE5 hrok hrd5 (fun b hb => by have := hc5.size; have := hb.2; omega)).mono ?_
     rintro en w6 ⟨hc6, hm6⟩
     rw [hrv] at hm6
     obtain ⟨a6, c6, rfl, hrd6⟩ := hm6
     have hb6 := hb5.keep hc6 nbE
     have hx6 := hx5.keep hc6 nbE
     have hc06 := hc05.tr hc6
     have hce6 := (hS.keep0 hc06).cell 0 1 rfl
     simp only [sv] at hce6
     have Hrv := Lib.hid hrv
     clear hrv
     obtain ⟨kl, hkl⟩ : ∃ z, z = (leavesOf (.mk i nm r k sb)).length := ⟨_, rfl⟩
     rw [← hkl] at hlk ⊢
     have Hkl := Lib.hid hkl
     clear hkl
     have hflI : ((footText l n).length : Int) ≤ (l.length : Int) - 16 := by rw [Hfl.out]; omega
     go_wp2_with fail
     rw [show ((l.length : Int) - 4 - 8 - ((footText l n).length : Int)) = ((l.length - 12 - n : Nat) : Int) from by rw [Hfl.out]; omega]
     refine (parts_any g kl (l.length - 12 - n) w6 _ ⟨_, _, rfl⟩ hce6 (by omega) (by omega) (by omega)).mono ?_
     rintro en w7 ⟨hc7, hm7⟩
     have hb7 := hb6.keep hc7 nbE
     have hx7 := hx6.keep hc7 nbE
     have hc07 := hc06.tr hc7
     have hce7 := (hc7.cell (lt_cell hce6) nbE).trans hce6
     cases hp : partF kl (l.length - 12 - n) g with
     | none =>
      rw [hp] at hm7
      obtain ⟨a7, n7, c7, rfl⟩ := hm7
      have Hp := Lib.hid hp
      clear hp
      go_wp2_with fail
      refine wp_region_n (fun w' => w'.cell? ⟨1, 0, none⟩ = some (.iface 298 (.pointer (some (A 0))))) [3] (by kernel_rfl) ?_ (fun hSh => ?_)
      ·exact hce7
      refine n_tA (v := ?_) 0 rfl (Or.inl ⟨by rfl, ?_⟩) ?_
      rotate_left 1
      ·(intro w' hSw; (try dsimp only at hSw); go_simp; try with_reducible rfl)
      simp only [Act.put, qA, qB, qC, qD, qE, qF]
      refine n_tA (v := ?_) 1 rfl (Or.inl ⟨by rfl, ?_⟩) ?_
      rotate_left 1
      ·(intro w' hSw; (try dsimp only at hSw); go_simp; try with_reducible rfl)
      simp only [Act.put, qA, qB, qC, qD, qE, qF]
      have z0 : w7.frozen? ⟨w.heap.size, 0, none⟩ = false := hb7.free 0
      have z1 : w7.frozen? ⟨w.heap.size, 1, none⟩ = false := hb7.free 1
      have z2 : w7.frozen? ⟨w.heap.size, 2, none⟩ = false := hb7.free 2
      have z3 : w7.frozen? ⟨w.heap.size, 3, none⟩ = false := hb7.free 3
      have z4 : w7.frozen? ⟨w.heap.size, 4, none⟩ = false := hb7.free 4
      have z5 : w7.frozen? ⟨w.heap.size, 5, none⟩ = false := hb7.free 5
      have z6 : w7.frozen? ⟨w.heap.size, 6, none⟩ = false := hb7.free 6
      have y0 : w7.cell? ⟨w.heap.size, 0, none⟩ = some (.int .i64 (0)) := hb7.cell 0
      have y1 : w7.cell? ⟨w.heap.size, 1, none⟩ = some (.string ⟨#[]⟩) := hb7.cell 1
      have y2 : w7.cell? ⟨w.heap.size, 2, none⟩ = some (.int .i64 (0)) := hb7.cell 2
      have y3 : w7.cell? ⟨w.heap.size, 3, none⟩ = some (.int .i64 (0)) := hb7.cell 3
      have y4 : w7.cell? ⟨w.heap.size, 4, none⟩ = some (.slice none 0 0) := hb7.cell 4
      have y5 : w7.cell? ⟨w.heap.size, 5, none⟩ = some (.slice none 0 0) := hb7.cell 5
      have y6 : w7.cell? ⟨w.heap.size, 6, none⟩ = some (.int .i64 (0)) := hb7.cell 6
      refine n_step 2 rfl (by kernel_rfl) ?_
      go_wp2_with fail
      refine ⟨fun _ => ((store7_chg w7 w.heap.size _ _ _ _ _ _ _).drew.cell (lt_cell hce7) (fun e => by have e : 1 = w.heap.size := e; omega)).trans hce7, fun hSk => ?_⟩
      refine n_step 3 rfl (by kernel_rfl) ?_
      go_wp2_with fail
      refine ⟨fun hx => absurd hx (by decide), fun _ => ?_⟩
      refine n_done (by kernel_rfl) ?_
      go_wp2_with fail
      have hbE := store7 hb7 (.int .i64 (0)) (.string ⟨#[]⟩) (.int .i64 (0)) (.int .i64 (0)) (.slice none 0 0) (.slice none 0 0) (.int .i64 (0))
      have hsE := store7_chg w7 (w.heap.size) (.int .i64 (0)) (.string ⟨#[]⟩) (.int .i64 (0)) (.int .i64 (0)) (.slice none 0 0) (.slice none 0 0) (.int .i64 (0))
      have hcE := hc07.trans hsE (fun i e => .inr (by have e : i = w.heap.size := e; omega))
      generalize World.setCell (World.setCell (World.setCell (World.setCell (World.setCell (World.setCell (World.setCell w7 ⟨w.heap.size, 0, none⟩ (.int .i64 (0))) ⟨w.heap.size, 1, none⟩ (.string ⟨#[]⟩)) ⟨w.heap.size, 2, none⟩ (.int .i64 (0))) ⟨w.heap.size, 3, none⟩ (.int .i64 (0))) ⟨w.heap.size, 4, none⟩ (.slice none 0 0)) ⟨w.heap.size, 5, none⟩ (.slice none 0 0)) ⟨w.heap.size, 6, none⟩ (.int .i64 (0)) = wE at hbE hsE hcE ⊢
      have n0 : wE.cell? ⟨w.heap.size, 0, none⟩ = some (.int .i64 (0)) := hbE.cell 0
      have n1 : wE.cell? ⟨w.heap.size, 1, none⟩ = some (.string ⟨#[]⟩) := hbE.cell 1
      have n2 : wE.cell? ⟨w.heap.size, 2, none⟩ = some (.int .i64 (0)) := hbE.cell 2
      have n3 : wE.cell? ⟨w.heap.size, 3, none⟩ = some (.int .i64 (0)) := hbE.cell 3
      have n4 : wE.cell? ⟨w.heap.size, 4, none⟩ = some (.slice none 0 0) := hbE.cell 4
      have n5 : wE.cell? ⟨w.heap.size, 5, none⟩ = some (.slice none 0 0) := hbE.cell 5
      have n6 : wE.cell? ⟨w.heap.size, 6, none⟩ = some (.int .i64 (0)) := hbE.cell 6
      refine bodyPost_ret (v := .tuple #[zeroFt, .iface 298 (.pointer (some (A 0)))]) (by first | exact resOpenOf rfl rfl n0 n1 n2 n3 n4 n5 n6 | exact resOpen rfl rfl n0 n1 n2 n3 n4 n5 n6) rfl ?_
      rw [open_part Hf.out He.out Hr.out (by rw [← Hkl.out]; exact Hp.out)]
      exact ⟨hcE.drew, rfl⟩
     | some gs =>
      rw [hp] at hm7
      obtain ⟨a7, c7, rfl, hrd7⟩ := hm7
      have Hp := Lib.hid hp
      clear hp
      have x0 : w7.cell? ⟨w4.heap.size, 0, none⟩ = some (.int .i64 (i)) := hx7.cell 0
      have x1 : w7.cell? ⟨w4.heap.size, 1, none⟩ = some (.string nm) := hx7.cell 1
      have x2 : w7.cell? ⟨w4.heap.size, 2, none⟩ = some (.int .i64 (r)) := hx7.cell 2
      have x3 : w7.cell? ⟨w4.heap.size, 3, none⟩ = some (.int .i64 (k)) := hx7.cell 3
      have x4 : w7.cell? ⟨w4.heap.size, 4, none⟩ = some (.slice a4 sb.length cap4) := hx7.cell 4
      have z0 : w7.frozen? ⟨w.heap.size, 0, none⟩ = false := hb7.free 0
      have z1 : w7.frozen? ⟨w.heap.size, 1, none⟩ = false := hb7.free 1
      have z2 : w7.frozen? ⟨w.heap.size, 2, none⟩ = false := hb7.free 2
      have z3 : w7.frozen? ⟨w.heap.size, 3, none⟩ = false := hb7.free 3
      have z4 : w7.frozen? ⟨w.heap.size, 4, none⟩ = false := hb7.free 4
      have z5 : w7.frozen? ⟨w.heap.size, 5, none⟩ = false := hb7.free 5
      have z6 : w7.frozen? ⟨w.heap.size, 6, none⟩ = false := hb7.free 6
      have y0 : w7.cell? ⟨w.heap.size, 0, none⟩ = some (.int .i64 (0)) := hb7.cell 0
      have y1 : w7.cell? ⟨w.heap.size, 1, none⟩ = some (.string ⟨#[]⟩) := hb7.cell 1
      have y2 : w7.cell? ⟨w.heap.size, 2, none⟩ = some (.int .i64 (0)) := hb7.cell 2
      have y3 : w7.cell? ⟨w.heap.size, 3, none⟩ = some (.int .i64 (0)) := hb7.cell 3
      have y4 : w7.cell? ⟨w.heap.size, 4, none⟩ = some (.slice none 0 0) := hb7.cell 4
      have y5 : w7.cell? ⟨w.heap.size, 5, none⟩ = some (.slice none 0 0) := hb7.cell 5
      have y6 : w7.cell? ⟨w.heap.size, 6, none⟩ = some (.int .i64 (0)) := hb7.cell 6
      go_wp2_with fail
      have hfb3 := hb3.lt
      have hfb6 := hb6.lt
      have hR1 := (((hrd5.mono (S' := fun b => w3.heap.size ≤ b) (fun b h => h.1)).chg0 hc6).chg0 hc7)
      have hbE := store7 hb7 (.int .i64 (i)) (.string nm) (.int .i64 (r)) (.int .i64 (k)) (.slice a4 sb.length cap4) (.slice a7 gs.length c7) (.int .i64 (((footText l n).length : Nat)))
      have hsE := store7_chg w7 (w.heap.size) (.int .i64 (i)) (.string nm) (.int .i64 (r)) (.int .i64 (k)) (.slice a4 sb.length cap4) (.slice a7 gs.length c7) (.int .i64 (((footText l n).length : Nat)))
      have hcE := hc07.trans hsE (fun i e => .inr (by have e : i = w.heap.size := e; omega))
      generalize World.setCell (World.setCell (World.setCell (World.setCell (World.setCell (World.setCell (World.setCell w7 ⟨w.heap.size, 0, none⟩ (.int .i64 (i))) ⟨w.heap.size, 1, none⟩ (.string nm)) ⟨w.heap.size, 2, none⟩ (.int .i64 (r))) ⟨w.heap.size, 3, none⟩ (.int .i64 (k))) ⟨w.heap.size, 4, none⟩ (.slice a4 sb.length cap4)) ⟨w.heap.size, 5, none⟩ (.slice a7 gs.length c7)) ⟨w.heap.size, 6, none⟩ (.int .i64 (((footText l n).length : Nat))) = wE at hbE hsE hcE ⊢
      have n0 : wE.cell? ⟨w.heap.size, 0, none⟩ = some (.int .i64 (i)) := hbE.cell 0
      have n1 : wE.cell? ⟨w.heap.size, 1, none⟩ = some (.string nm) := hbE.cell 1
      have n2 : wE.cell? ⟨w.heap.size, 2, none⟩ = some (.int .i64 (r)) := hbE.cell 2
      have n3 : wE.cell? ⟨w.heap.size, 3, none⟩ = some (.int .i64 (k)) := hbE.cell 3
      have n4 : wE.cell? ⟨w.heap.size, 4, none⟩ = some (.slice a4 sb.length cap4) := hbE.cell 4
      have n5 : wE.cell? ⟨w.heap.size, 5, none⟩ = some (.slice a7 gs.length c7) := hbE.cell 5
      have n6 : wE.cell? ⟨w.heap.size, 6, none⟩ = some (.int .i64 (((footText l n).length : Nat))) := hbE.cell 6
      refine bodyPost_ret (v := .tuple #[.agg #[.int .i64 i, .string nm, .int .i64 r, .int .i64 k, .slice a4 sb.length cap4, .slice a7 gs.length c7, .int .i64 ((footText l n).length : Nat)], .nilIface]) (resOpen rfl rfl n0 n1 n2 n3 n4 n5 n6) rfl ?_
      rw [open_fine Hf.out He.out Hr.out (by rw [← Hkl.out]; exact Hp.out)]
      refine ⟨hcE, i, nm, r, k, _, _, by rw [Hfl.out], ?_, ?_⟩
      ·exact (hR1.chg hsE (fun b h e => by have e : b = w.heap.size := e; omega)).mono (fun b h => by have := hc03.size; omega)
      ·exact (hrd7.chg hsE (fun b h e => by have e : b = w.heap.size := e; omega)).mono (fun b h => by have := hc06.size; omega)
end Go.Proofs.YtkchmgjmecojcaaGreatDoor
