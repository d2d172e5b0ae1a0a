/-
  table: Create on a disk without files, and where something stands; shredcollaw4's start and made.
-/
import Derived.Test.YtnmhkafpgohefaaGreatDoorCommit
import Derived.Test.YtnmhkafpgohefaaGreatDoorTabPut
import Derived.Test.YtnmhkafpgohefaaGreatDoorTabNew
set_option linter.unusedVariables false
set_option maxHeartbeats 20000000
set_option maxRecDepth 100000
set_option linter.unusedSimpArgs false
namespace Go.Proofs.YtnmhkafpgohefaaGreatDoor
open Go.RowKit Go.Maps
theorem create_full (db mb n : Nat) (D : DataW Value) (w : World) (steps used : Int) (A : Nat → Addr) (hS : Sents w A) (hd : Blk w db (dkCells steps used mb) 46) (hm : FM w mb n D) (h1 : Maps.size D = 1) (hk : (strKeys D).length = Maps.size D) :
  Calls Tryz.prog 9 #[.pointer (some ⟨db, 0, none⟩)] w (RetV (.tuple #[.pointer none, sv (A 2)]) w) := by
 have HS := Lib.hid (fun (w' : World) (hc : Chg NoB w w') => (hS.keep0 hc).cell 2 5 rfl)
 have Hn := Lib.hid (namesD_any db mb n D w steps used hd hm (by omega) hk)
 rw [h1] at Hn
 clear hd hm hk
 go_enter Tryz.func9, Tryz.ntmps9
 go_wp2_with fail
 refine Hn.out.mono ?_
 rintro en w1 ⟨⟨a, c, rfl⟩, hc1⟩
 have g2 := HS.out w1 hc1
 simp only [sv] at g2
 go_wp2_with fail
 go_quiet (fail)
 go_wp2_with fail
 go_ret2
 exact ⟨rfl, hc1.drewN _⟩
theorem create_new (db mb n : Nat) (w : World) (A : Nat → Addr) (E : Er → Value) (N K : Value) (m : Int) (steps : Int) (hG : EvG w.heap.size E N K m w) (hS : Sents w A) (hd : Blk w db (dkCells steps 0 mb) 46) (hm : FM w mb n noneD) (h0 : 0 ≤ steps) (h1 : steps ≤ 1000) (hn : n ≤ 1000) (hdm : db ≠ mb)
  (hSC : ∀ w', Chg (TwoD db mb) w w' → Sents w' A) :
  Calls Tryz.prog 9 #[.pointer (some ⟨db, 0, none⟩)] w (fun en w' => ∃ tb sb c, en = .returned (.tuple #[.pointer (some ⟨tb, 0, none⟩), .nilIface]) ∧ w'.cell? ⟨tb, 0, none⟩ = some (.slice none 0 0) ∧ w'.cell? ⟨tb, 1, none⟩ = some (.slice (some ⟨sb, 0, none⟩) 1 c) ∧ w'.cell? ⟨sb, 0, none⟩ = some (.slice none 0 0) ∧ Chg (TwoD db mb) w w') := by
 have Hn := Lib.hid (namesD_any db mb n noneD w steps 0 hd hm (by decide) rfl)
 rw [show Maps.size noneD = 0 from rfl] at Hn
 have hdl := hd.lt
 have hml := hm.lt
 go_enter Tryz.func9, Tryz.ntmps9
 go_wp2_with fail
 refine Hn.out.mono ?_
 rintro en w1 ⟨⟨a, c, rfl⟩, hc1⟩
 go_wp2_with fail
 generalize hw2 : World.alloc _ _ = w2
 have hc2 : Chg NoB w1 w2 := by
  rw [← hw2]
  repeat (first | exact Chg.refl _ _ | apply Chg.alloc | apply Chg.drew)
 have ht2 : Blk w2 (w1.heap.size) ([.slice none 0 0, .slice none 0 0, .int .i64 0, .pointer (some ⟨db, 0, none⟩), .int .i64 0, .string ⟨#[]⟩, .int .i64 0, .int .i64 0, .slice none 0 0, .bool false]) 60 := by
  rw [← hw2]
  repeat (first | exact Blk.newAt (by first | rfl | (simp; done) | (simp; omega)) | apply Blk.alloc | apply Blk.drew)
 have hs2 : Blk w2 (w1.heap.size + 1) ([.slice none 0 0]) 37 := by
  rw [← hw2]
  repeat (first | exact Blk.newAt (by first | rfl | (simp; done) | (simp; omega)) | apply Blk.alloc | apply Blk.drew)
 clear hw2
 have hc02 := hc1.tr hc2
 have hz1 := hc1.size
 have hzs := hs2.lt
 have hs20 : w2.cell? ⟨w1.heap.size + 1, 0, none⟩ = some (.slice none 0 0) := hs2.cell 0
 have hne1 : w1.heap.size ≠ db ∧ w1.heap.size ≠ mb := ⟨by omega, by omega⟩
 have hne2 : w1.heap.size + 1 ≠ db ∧ w1.heap.size + 1 ≠ mb ∧ w1.heap.size + 1 ≠ w1.heap.size := ⟨by omega, by omega, by omega⟩
 refine (commit_new w1.heap.size db mb (w1.heap.size + 1) 1 n [.int .i64 0, .string ⟨#[]⟩, .int .i64 0, .int .i64 0, .slice none 0 0] w2 A E N K m steps rfl ((hG.keep0 hc02).up hc02.size) (hS.keep0 hc02) ht2 (hd.keep hc02 nbE) (hm.keep hc02 nbE) hs20 h0 h1 hn hdm hne1 hne2
  (fun w' hc => hSC w' ((hc02.mono (fun _ _ e => e.elim)).trans hc (fun b e => e.elim (fun e => .inr (by have e : b = w1.heap.size := e; omega)) (fun e => .inl e))))).mono ?_
 rintro en w3 ⟨rfl, t0, t1, hc3⟩
 have hc03 : Chg (TwoD db mb) w w3 := (hc02.mono (fun _ _ e => e.elim)).trans hc3 (fun b e => e.elim (fun e => .inr (by have e : b = w1.heap.size := e; omega)) (fun e => .inl e))
 have hs30 := (hc3.cell (p := ⟨w1.heap.size + 1, 0, none⟩) hzs (fun e => e.elim hne2.2.2 (fun e => e.elim hne2.1 hne2.2.1))).trans hs20
 go_wp2_with fail
 go_ret2
 exact ⟨_, _, _, rfl, t0, t1, hs30, hc03⟩
theorem start_any (w : World) (A : Nat → Addr) (E : Er → Value) (N K : Value) (m : Int) (hG : EvG w.heap.size E N K m w) (hS : Sents w A) :
  Calls Tryz.prog 10 #[] w (fun en w' => ∃ db tb sb c rb, en = .returned (.tuple #[.pointer (some ⟨db, 0, none⟩), .pointer (some ⟨tb, 0, none⟩), .pointer (some ⟨rb, 0, none⟩)]) ∧ w'.cell? ⟨tb, 0, none⟩ = some (.slice none 0 0) ∧ w'.cell? ⟨tb, 1, none⟩ = some (.slice (some ⟨sb, 0, none⟩) 1 c) ∧ w'.cell? ⟨sb, 0, none⟩ = some (.slice none 0 0) ∧ Chg NoB w w') := by
 go_enter Tryz.func10, Tryz.ntmps10
 go_wp2_with fail
 refine (newD_any w).mono ?_
 rintro en w1 ⟨rfl, hm1, hd1, hc1⟩
 go_wp2_with fail
 refine (create_new (w.heap.size + 1) w.heap.size 0 w1 A E N K m 0 ((hG.keep0 hc1).up hc1.size) (hS.keep0 hc1) hd1 hm1 (by decide) (by decide) (by decide) (by omega) (fun w' hc => hS.keep0 (hc1.trans hc (fun b e => .inr (e.elim (fun e => by omega) (fun e => by omega)))))).mono ?_
 rintro en w2 ⟨tb, sb, c, rfl, t0, t1, s0, hc2⟩
 have hc02 : Chg NoB w w2 := hc1.trans hc2 (fun b e => .inr (e.elim (fun e => by omega) (fun e => by omega)))
 go_wp2_with fail
 refine (newTR_any w2).mono ?_
 rintro en w3 ⟨⟨rb, rfl⟩, hc3⟩
 have hk : ∀ p v, w2.cell? p = some v → w3.cell? p = some v := fun p v h => (hc3.cell (lt_cell h) nbE).trans h
 have Hk := Lib.hid hk
 clear hk
 go_wp2_with fail
 refine bodyPost_ret (v := .tuple #[.pointer (some ⟨w.heap.size + 1, 0, none⟩), .pointer (some ⟨tb, 0, none⟩), .pointer (some ⟨rb, 0, none⟩)]) (by simp [results, Tryz.results10, go_sem]) rfl ?_
 exact ⟨_, _, _, _, _, rfl, Hk.out _ _ t0, Hk.out _ _ t1, Hk.out _ _ s0, hc02.tr hc3⟩
theorem made_any (w : World) (A : Nat → Addr) (E : Er → Value) (N K : Value) (m : Int) (hG : EvG w.heap.size E N K m w) (hS : Sents w A) :
  Calls Tryz.prog 4 #[] w (RetV (.bool true) w) := by
 go_enter Tryz.func4, Tryz.ntmps4
 go_wp2_with fail
 refine (start_any w A E N K m hG hS).mono ?_
 rintro en w1 ⟨db, tb, sb, c, rb, rfl, t0, t1, s0, hc1⟩
 go_wp2_with fail
 refine (files_new tb sb c w1 t1 s0).mono ?_
 rintro en w2 ⟨rfl, rfl⟩
 go_wp2_with fail
 refine (snaps_new tb c _ w2 t1).mono ?_
 rintro en w3 ⟨rfl, rfl⟩
 go_wp2_with fail
 refine (edits_new tb w3 t0).mono ?_
 rintro en w4 ⟨rfl, rfl⟩
 go_wp2_with fail
 go_ret
 exact ⟨rfl, hc1⟩
end Go.Proofs.YtnmhkafpgohefaaGreatDoor
