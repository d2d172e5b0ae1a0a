/-
  table: commit of a new table.
-/
import Derived.Test.YtnmhkafpgohefaaGreatDoorTabPut
import Derived.Test.YtnmhkafpgohefaaGreatDoorSevLaw
import Derived.Test.YtnmhkafpgohefaaGreatDoorTabNew
import Derived.Test.YtnmhkafpgohefaaGreatDoorReplayT
set_option linter.unusedVariables false
set_option maxHeartbeats 20000000
set_option maxRecDepth 100000
set_option linter.unusedSimpArgs false
namespace Go.Proofs.YtnmhkafpgohefaaGreatDoor
open Go.RowKit Go.Maps
def rootBs : ByteArray := ⟨#[114, 111, 111, 116]⟩
def tempBs : ByteArray := ⟨#[116, 101, 109, 112]⟩
theorem name_temp : nameD tempBs = true := by decide +kernel
theorem name_root : nameD rootBs = true := by decide +kernel
theorem is_nil (a : Addr) (w : World) : Calls Tryz.prog 35 #[.nilIface, sv a] w (fun en w' => en = .returned (.bool false) ∧ w' = w) := by
 unfold sv
 have hb : (binOp .eql 25 .nilIface (.iface 272 (.pointer (some a)))).run Tryz.prog w = .ok (.bool false) w := by kernel_rfl
 go_enter Tryz.func35, Tryz.ntmps35
 go_wp2_with fail
 go_ret
 exact ⟨rfl, rfl⟩
theorem own_one {w : World} {B : Nat} {v : Value} {s : ByteArray} (h : Own w B 9 1 (fun _ => False) v [strDt s]) : ∃ g cap, v = .slice (some ⟨g, 0, none⟩) 1 cap ∧ B ≤ g ∧ g < w.heap.size ∧ w.cell? ⟨g, 0, none⟩ = some (.string s) := by
 have hr := h.reads (S' := fun _ => True) (fun _ _ => trivial) (fun _ _ _ => trivial) (by simp [maxLen])
 obtain ⟨a, cap, rfl, -, -, hx⟩ := list_cells (l := [s]) (f := Value.string) hr
 obtain ⟨b, off, rfl, -, hb, hc⟩ := hx (by simp)
 obtain ⟨xs, h1, h2⟩ := h
 rcases h1.2 with ⟨h0, _⟩ | ⟨g, cap', cur, h0, hB, _⟩
 ·cases h0
 ·cases h0
  exact ⟨_, _, rfl, hB, hb, hc 0 s rfl⟩
theorem zeroSl (w : World) : Reads w (fun _ => False) (.list 1 (([] : List ByteArray).map fun x => .lit (.string x))) [.slice none 0 0] :=
 ⟨none, 0, rfl, Nat.le_refl _, Nat.zero_le _, .inl ⟨rfl, fun _ => rfl⟩⟩
theorem commit_new (tb db mb sb c n : Nat) (root : List Value) (w : World) (A : Nat → Addr) (E : Er → Value) (N K : Value) (m : Int) (steps : Int) (hroot : root.length = 5) (hG : EvG w.heap.size E N K m w) (hS : Sents w A) (ht : Blk w tb (.slice none 0 0 :: .slice none 0 0 :: .int .i64 0 :: .pointer (some ⟨db, 0, none⟩) :: root ++ [.bool false]) 60)
  (hd : Blk w db (dkCells steps 0 mb) 46) (hm : FM w mb n noneD) (hs : w.cell? ⟨sb, 0, none⟩ = some (.slice none 0 0)) (h0 : 0 ≤ steps) (h1 : steps ≤ 1000) (hn : n ≤ 1000) (hdm : db ≠ mb) (htd : tb ≠ db ∧ tb ≠ mb) (hsd : sb ≠ db ∧ sb ≠ mb ∧ sb ≠ tb) (hSC : ∀ w', Chg (fun b => b = tb ∨ b = db ∨ b = mb) w w' → Sents w' A) :
  Calls Tryz.prog 22 #[.pointer (some ⟨tb, 0, none⟩), .agg #[.slice none 0 0, .slice (some ⟨sb, 0, none⟩) 1 c, .int .i64 0], .map none] w (fun en w' => en = .returned .nilIface ∧ w'.cell? ⟨tb, 0, none⟩ = some (.slice none 0 0) ∧ w'.cell? ⟨tb, 1, none⟩ = some (.slice (some ⟨sb, 0, none⟩) 1 c) ∧ Chg (fun b => b = tb ∨ b = db ∨ b = mb) w w') := by
 obtain ⟨r0, r1, r2, r3, r4, rfl⟩ : ∃ a b c d e, root = [a, b, c, d, e] := by
  match root, hroot with
  | [a, b, c, d, e], _ => exact ⟨a, b, c, d, e, rfl⟩
 replace ht : Blk w tb [.slice none 0 0, .slice none 0 0, .int .i64 0, .pointer (some ⟨db, 0, none⟩), r0, r1, r2, r3, r4, .bool false] 60 := ht
 have t9 : w.cell? ⟨tb, 9, none⟩ = some (.bool false) := ht.cell 9
 go_enter Tryz.func22, Tryz.ntmps22
 go_upto_region 1 with fail
 generalize hw1 : World.alloc _ _ = w1
 have hc1 : Chg NoB w w1 := by
  rw [← hw1]
  repeat (first | exact Chg.refl _ _ | apply Chg.alloc | apply Chg.drew)
 have hb1 : Blk w1 (w.heap.size) ([.slice none 0 0, .slice (some ⟨sb, 0, none⟩) 1 c, .int .i64 0]) 51 := by
  rw [← hw1]
  repeat (first | exact Blk.newAt (by first | rfl | (simp; done) | (simp; omega)) | apply Blk.alloc | apply Blk.drew)
 clear hw1
 have c0 : w1.cell? ⟨w.heap.size, 0, none⟩ = some (.slice none 0 0) := hb1.cell 0
 have t9' := (hc1.cell (p := ⟨tb, 9, none⟩) (lt_cell t9) nbE).trans t9
 go_wp2_with fail
 refine (replay_any [] (.slice none 0 0) w1 (fun _ => False) E N K m ((hG.keep0 hc1).up hc1.size) (zeroSl w1) (by simp)).mono ?_
 rintro en w2 ⟨hc2, hm2⟩
 rw [show replayF [] = .ok [] 1 from rfl] at hm2
 obtain ⟨v, F, rfl, hT2, -⟩ := hm2
 obtain ⟨va, vc, rfl⟩ : ∃ a c, v = .slice a 0 c := by
  rcases hT2 with ⟨-, h, -⟩ | ⟨b, cap, cur, F', h, _⟩
  ·exact ⟨_, _, h⟩
  ·exact ⟨_, _, h⟩
 clear hT2
 have hc02 := hc1.tr hc2
 have hz2 := hc02.size
 have hb2 := hb1.keep hc2 nbE
 go_upto_region 4 with fail
 generalize hw3 : World.alloc _ _ = w3
 have hc3 : Chg NoB w2 w3 := by
  rw [← hw3]
  repeat (first | exact Chg.refl _ _ | apply Chg.alloc | apply Chg.drew)
 have hb3 : Blk w3 (w2.heap.size) ([.int .i64 0, .string rootName, .int .i64 1, .int .i64 0, .slice va 0 vc]) 56 := by
  rw [← hw3]
  repeat (first | exact Blk.newAt (by first | rfl | (simp; done) | (simp; omega)) | apply Blk.alloc | apply Blk.drew)
 clear hw3
 have hb23 := hb2.keep hc3 nbE
 have hc03 := hc02.tr hc3
 have hs3 := (hc03.cell (p := ⟨sb, 0, none⟩) (lt_cell hs) nbE).trans hs
 have c30 : w3.cell? ⟨w.heap.size, 0, none⟩ = some (.slice none 0 0) := hb23.cell 0
 have c31 : w3.cell? ⟨w.heap.size, 1, none⟩ = some (.slice (some ⟨sb, 0, none⟩) 1 c) := hb23.cell 1
 have c32 : w3.cell? ⟨w.heap.size, 2, none⟩ = some (.int .i64 0) := hb23.cell 2
 clear c0 t9 t9' hc1 hc2 hc3
 go_wp2_with fail
 refine (needed_new sb c w3 hs3).mono ?_
 rintro en w4 ⟨⟨na, nc, rfl⟩, hc4⟩
 have hb4 := hb23.keep hc4 nbE
 have hr4 := hb3.keep hc4 nbE
 have hc04 := hc03.tr hc4
 have hs4 := (hc4.cell (p := ⟨sb, 0, none⟩) (lt_cell hs3) nbE).trans hs3
 clear c30 c31 c32 hs3 hb1 hb2 hb23 hb3 hc02 hc03 hc4
 go_wp2_with fail
 refine wp_loop_rounds 1 ?_
 rw [rounds_succ]
 go_wp2_with fail
 have c40 : w4.cell? ⟨w.heap.size, 0, none⟩ = some (.slice none 0 0) := hb4.cell 0
 have c41 : w4.cell? ⟨w.heap.size, 1, none⟩ = some (.slice (some ⟨sb, 0, none⟩) 1 c) := hb4.cell 1
 have c42 : w4.cell? ⟨w.heap.size, 2, none⟩ = some (.int .i64 0) := hb4.cell 2
 refine wp_region_n (fun w' => w'.cell? ⟨w.heap.size, 0, none⟩ = some (.slice none 0 0) ∧ w'.cell? ⟨w.heap.size, 1, none⟩ = some (.slice (some ⟨sb, 0, none⟩) 1 c) ∧ w'.cell? ⟨w.heap.size, 2, none⟩ = some (.int .i64 0)) [9] (by kernel_rfl) ?_ (fun hSh => ?_)
 ·exact ⟨c40, c41, c42⟩
 refine n_tA (v := ?_) 0 rfl (Or.inl ⟨by rfl, ?_⟩) ?_
 rotate_left 1
 ·(intro w' hSw; (try dsimp only at hSw); go_simp; try with_reducible rfl)
 simp only [Act.put, qA, qB, qC, qD, qE, qF]
 refine n_tA (v := ?_) 3 rfl (Or.inl ⟨by rfl, ?_⟩) ?_
 rotate_left 1
 ·(intro w' hSw; (try dsimp only at hSw); go_simp; try with_reducible rfl)
 simp only [Act.put, qA, qB, qC, qD, qE, qF]
 refine n_tA (v := ?_) 4 rfl (Or.inl ⟨by rfl, ?_⟩) ?_
 rotate_left 1
 ·(intro w' hSw; (try dsimp only at hSw); go_simp; try with_reducible rfl)
 simp only [Act.put, qA, qB, qC, qD, qE, qF]
 refine n_step 1 rfl (by kernel_rfl) ?_
 go_wp2_with fail
 generalize hw5 : World.drew (World.alloc _ _) = w5
 have hc5 : Chg NoB w4 w5 := by
  rw [← hw5]
  repeat (first | exact Chg.refl _ _ | apply Chg.alloc | apply Chg.drew)
 have hn5 : Blk w5 (w4.heap.size) ([.string tempBs]) 9 := by
  rw [← hw5]
  repeat (first | exact Blk.newAt (by first | rfl | (simp; done) | (simp; omega)) | apply Blk.alloc | apply Blk.drew)
 clear hw5
 have hb5 := hb4.keep hc5 nbE
 have hs5 := (hc5.cell (p := ⟨sb, 0, none⟩) (lt_cell hs4) nbE).trans hs4
 have hc05 := hc04.tr hc5
 refine ⟨fun _ => ⟨hb5.cell 0, hb5.cell 1, hb5.cell 2⟩, fun hSk => ?_⟩
 replace hSk := hSk (by rfl)
 refine n_step 2 rfl (by kernel_rfl) ?_
 refine wpList_own rfl (.tmp 56) (.tmp 57) 37 rfl w5.heap.size 9 Tryz.underlying37 infoStr rfl (by decide) rfl (Own.nil w5 w5.heap.size 9 1 (fun _ => False)) rfl [strDt tempBs] [.string tempBs] rfl (ReadsC.single rfl (reads_str _ _ _)) hn5.news (fun e => by cases e) (by simp [maxLen]) (by decide) (Nat.le_refl _) ?_
 intro ao6 cap6 w6 ho6 hc6 _
 replace hc6 : Chg NoB w5 w6 := hc6.mono (fun b _ e => by cases e)
 obtain ⟨nb, ncap, hform, hnb1, hnb2, hnc⟩ := own_one ho6
 obtain ⟨rfl, _, rfl⟩ := Value.slice.inj hform
 clear hform
 have hb6 := hb5.keep hc6 nbE
 have hr6 := (hr4.keep hc5 nbE).keep hc6 nbE
 have hs6 := (hc6.cell (p := ⟨sb, 0, none⟩) (lt_cell hs5) nbE).trans hs5
 have hc06 := hc05.tr hc6
 clear hSk hSh c40 c41 c42 hb4 hb5 hs4 hs5 hc5 hc6 ho6
 go_wp2_with fail
 refine ⟨fun _ => ⟨hb6.cell 0, hb6.cell 1, hb6.cell 2⟩, fun hSk => ?_⟩
 replace hSk := hSk (by rfl)
 obtain ⟨L, hL⟩ : ∃ z, z = manF := ⟨_, rfl⟩
 have HT := Lib.hid (textS_new sb c w6 hs6)
 have hLl := manF_le
 rw [← hL] at HT hLl
 clear hL
 refine n_step 5 rfl (by kernel_rfl) ?_
 go_wp2_with fail
 refine HT.out.mono ?_
 rintro en w7 ⟨rfl, hc7⟩
 have hb7 := hb6.keep hc7 nbE
 have hr7 := hr6.keep hc7 nbE
 have hn7 := (hc7.cell (p := ⟨nb, 0, none⟩) hnb2 nbE).trans hnc
 have hc07 := hc06.tr hc7
 have hnb7 := Nat.lt_of_lt_of_le hnb2 hc7.size
 clear hSk hb6 hr6 hnc hs6 HT hnb2 hc7
 go_wp2_with fail
 refine ⟨fun _ => ⟨hb7.cell 0, hb7.cell 1, hb7.cell 2⟩, fun hSk => ?_⟩
 replace hSk := hSk (by rfl)
 refine n_step 6 rfl (by kernel_rfl) ?_
 go_wp2_with fail
 generalize hw8 : World.alloc _ _ = w8
 have hc8 : Chg NoB w7 w8 := by
  rw [← hw8]
  repeat (first | exact Chg.refl _ _ | apply Chg.alloc | apply Chg.drew)
 have hx8 : Blk w8 (w7.heap.size) ([.string ⟨L.toArray⟩]) 9 := by
  rw [← hw8]
  repeat (first | exact Blk.newAt (by first | rfl | (simp; done) | (simp; omega)) | apply Blk.alloc | apply Blk.drew)
 clear hw8
 have hb8 := hb7.keep hc8 nbE
 refine ⟨fun _ => ⟨hb8.cell 0, hb8.cell 1, hb8.cell 2⟩, fun hSk => ?_⟩
 replace hSk := hSk (by rfl)
 refine n_step 7 rfl (by kernel_rfl) ?_
 refine wpList_own rfl (.tmp 59) (.tmp 62) 37 rfl w8.heap.size 9 Tryz.underlying37 infoStr rfl (by decide) rfl (Own.nil w8 w8.heap.size 9 1 (fun _ => False)) rfl [strDt ⟨L.toArray⟩] [.string ⟨L.toArray⟩] rfl (ReadsC.single rfl (reads_str _ _ _)) hx8.news (fun e => by cases e) (by simp [maxLen]) (by decide) (Nat.le_refl _) ?_
 intro ao9 cap9 w9 ho9 hc9 _
 replace hc9 : Chg NoB w8 w9 := hc9.mono (fun b _ e => by cases e)
 obtain ⟨xb, xcap, hform, hxb1, hxb2, hxc⟩ := own_one ho9
 obtain ⟨rfl, _, rfl⟩ := Value.slice.inj hform
 clear hform
 have hb9 := hb8.keep hc9 nbE
 have hr9 := (hr7.keep hc8 nbE).keep hc9 nbE
 have hn9 := ((hc8.tr hc9).cell (p := ⟨nb, 0, none⟩) hnb7 nbE).trans hn7
 have hc09 := (hc07.tr hc8).tr hc9
 have hz5 := hc05.size
 have hz8 := (hc07.tr hc8).size
 clear hSk hb7 hb8 hr7 hn7 hc8 hc9 ho9 hc07 hx8
 go_wp2_with fail
 refine ⟨fun _ => ⟨hb9.cell 0, hb9.cell 1, hb9.cell 2⟩, fun hSk => ?_⟩
 replace hSk := hSk (by rfl)
 refine n_step 8 rfl (by kernel_rfl) ?_
 go_wp2_with fail
 refine ⟨fun _ => ⟨hb9.cell 0, hb9.cell 1, hb9.cell 2⟩, fun hSk => ?_⟩
 replace hSk := hSk (by rfl)
 refine n_step 9 rfl (by kernel_rfl) ?_
 go_wp2_with fail
 refine ⟨fun hx => absurd hx (by decide), fun _ => ?_⟩
 refine n_done (by kernel_rfl) ?_
 have ht9 := ht.keep hc09 nbE
 have hd9 := hd.keep hc09 nbE
 have hm9 := hm.keep hc09 nbE
 have hdl := hd.lt
 have hml := hm.lt
 have htl := ht.lt
 clear hSk
 go_wp2_with fail
 refine (put_new tb nb xb _ _ db mb n tempBs L w9 steps A (hS.keep0 hc09) hd9 hm9 (by decide) name_temp (fun e => by rw [e] at hLl; exact absurd hLl.1 (by decide)) (by omega) h0 (by omega) (by omega) hdm (ht9.cell 3) hn9 hxc htd ⟨by omega, by omega⟩ ⟨by omega, by omega⟩).mono ?_
 rintro en w10 ⟨rfl, v, hmA, -, hdA, hcA⟩
 have hbA := hb9.keep hcA (fun e => e.elim (fun e => by have e : w.heap.size = db := e; omega) (fun e => by have e : w.heap.size = mb := e; omega))
 have hrA := hr9.keep hcA (fun e => e.elim (fun e => by have e : w2.heap.size = db := e; omega) (fun e => by have e : w2.heap.size = mb := e; omega))
 have htA := ht9.keep hcA (fun e => e.elim htd.1 htd.2)
 have hc0A : Chg (fun b => b = tb ∨ b = db ∨ b = mb) w w10 := (hc09.mono (fun _ _ e => e.elim)).trans hcA (fun b e => .inl (.inr e))
 have hSA := hSC w10 hc0A
 have gA1 := hSA.cell 1 0 rfl
 have gA7 := hSA.cell 7 4 rfl
 have HI1 := Lib.hid (is_nil (A 1) w10)
 have HI7 := Lib.hid (is_nil (A 7) w10)
 simp only [sv] at gA1 gA7 HI1 HI7
 have Hm := Lib.hid hmA
 have hLle := hLl.2
 have tA3 : w10.cell? ⟨tb, 3, none⟩ = some (.pointer (some ⟨db, 0, none⟩)) := htA.cell 3
 clear hmA hcA hb9 hr9 hn9 hxc ht9 hd9 hm9 hxb1 hxb2 hnb1 hnb7 hc04 hc05 hc06 hn5 hr4 hLl
 go_wp2_with fail
 refine HI7.out.mono ?_
 rintro en w11 ⟨rfl, rfl⟩
 go_wp2_with fail
 refine HI1.out.mono ?_
 rintro en w12 ⟨rfl, rfl⟩
 go_wp2_with fail
 refine (renameD_one db mb (n + L.length) tempBs rootBs v w12 (steps + L.length) L.length hdA Hm.out (by decide) (by decide) (by decide) name_root (by omega) (by omega) ⟨by omega, by omega⟩ (by omega) hdm).mono ?_
 rintro en w13 ⟨rfl, hmB, hdB, hcB⟩
 have hbB := hbA.keep hcB (fun e => e.elim (fun e => by have e : w.heap.size = db := e; omega) (fun e => by have e : w.heap.size = mb := e; omega))
 have hrB := hrA.keep hcB (fun e => e.elim (fun e => by have e : w2.heap.size = db := e; omega) (fun e => by have e : w2.heap.size = mb := e; omega))
 have htB := htA.keep hcB (fun e => e.elim htd.1 htd.2)
 have hc0B : Chg (fun b => b = tb ∨ b = db ∨ b = mb) w w13 := hc0A.trans hcB (fun b e => .inl (.inr e))
 clear hmB hdB hdA Hm HI1 HI7 gA1 gA7 tA3 hbA hrA htA hc0A hcB hSA
 have c40 : w13.cell? ⟨w.heap.size, 0, none⟩ = some (.slice none 0 0) := hbB.cell 0
 have c41 : w13.cell? ⟨w.heap.size, 1, none⟩ = some (.slice (some ⟨sb, 0, none⟩) 1 c) := hbB.cell 1
 have c42 : w13.cell? ⟨w.heap.size, 2, none⟩ = some (.int .i64 0) := hbB.cell 2
 have r0' : w13.cell? ⟨w2.heap.size, 0, none⟩ = some (.int .i64 0) := hrB.cell 0
 have r1' : w13.cell? ⟨w2.heap.size, 1, none⟩ = some (.string rootName) := hrB.cell 1
 have r2' : w13.cell? ⟨w2.heap.size, 2, none⟩ = some (.int .i64 1) := hrB.cell 2
 have r3' : w13.cell? ⟨w2.heap.size, 3, none⟩ = some (.int .i64 0) := hrB.cell 3
 have r4' : w13.cell? ⟨w2.heap.size, 4, none⟩ = some (.slice va 0 vc) := hrB.cell 4
 have q0 : w13.cell? ⟨tb, 0, none⟩ = some (.slice none 0 0) := htB.cell 0
 have q1 : w13.cell? ⟨tb, 1, none⟩ = some (.slice none 0 0) := htB.cell 1
 have q2 : w13.cell? ⟨tb, 2, none⟩ = some (.int .i64 0) := htB.cell 2
 have q4 : w13.cell? ⟨tb, 4, none⟩ = some r0 := htB.cell 4
 have q5 : w13.cell? ⟨tb, 5, none⟩ = some r1 := htB.cell 5
 have q6 : w13.cell? ⟨tb, 6, none⟩ = some r2 := htB.cell 6
 have q7 : w13.cell? ⟨tb, 7, none⟩ = some r3 := htB.cell 7
 have q8 : w13.cell? ⟨tb, 8, none⟩ = some r4 := htB.cell 8
 have f0 : w13.frozen? ⟨tb, 0, none⟩ = false := htB.free 0
 have f1 : w13.frozen? ⟨tb, 1, none⟩ = false := htB.free 1
 have f2 : w13.frozen? ⟨tb, 2, none⟩ = false := htB.free 2
 have f4 : w13.frozen? ⟨tb, 4, none⟩ = false := htB.free 4
 have f5 : w13.frozen? ⟨tb, 5, none⟩ = false := htB.free 5
 have f6 : w13.frozen? ⟨tb, 6, none⟩ = false := htB.free 6
 have f7 : w13.frozen? ⟨tb, 7, none⟩ = false := htB.free 7
 have f8 : w13.frozen? ⟨tb, 8, none⟩ = false := htB.free 8
 go_wp2_with fail
 refine wp_region_n (fun w' => w'.cell? ⟨w.heap.size, 0, none⟩ = some (.slice none 0 0) ∧ w'.cell? ⟨w.heap.size, 1, none⟩ = some (.slice (some ⟨sb, 0, none⟩) 1 c) ∧ w'.cell? ⟨w.heap.size, 2, none⟩ = some (.int .i64 0) ∧ w'.cell? ⟨w2.heap.size, 0, none⟩ = some (.int .i64 0) ∧ w'.cell? ⟨w2.heap.size, 1, none⟩ = some (.string rootName) ∧ w'.cell? ⟨w2.heap.size, 2, none⟩ = some (.int .i64 1) ∧ w'.cell? ⟨w2.heap.size, 3, none⟩ = some (.int .i64 0) ∧ w'.cell? ⟨w2.heap.size, 4, none⟩ = some (.slice va 0 vc)) [9] (by kernel_rfl) ?_ (fun hSh => ?_)
 ·exact ⟨c40, c41, c42, r0', r1', r2', r3', r4'⟩
 refine n_from 0 ?_
 intro htk
 iterate 6
  refine n_tB (v := ?_) htk rfl (Or.inl ⟨by rfl, ?_⟩) ?_
  rotate_left 1
  ·(intro w' hSw; (try dsimp only at hSw); go_simp; try with_reducible rfl)
  clear htk
  intro htk
  simp only [Nat.reduceAdd] at htk
  simp only [Act.put, qA, qB, qC, qD, qE, qF]
 clear htk
 refine n_step 6 rfl (by kernel_rfl) ?_
 go_wp2_with fail
 have htC := ((htB.set 0 (.slice none 0 0)).set 1 (.slice (some ⟨sb, 0, none⟩) 1 c)).set 2 (.int .i64 0)
 have hcC : Chg (OneB tb) w13 (((w13.setCell ⟨tb, 0, none⟩ (.slice none 0 0)).setCell ⟨tb, 1, none⟩ (.slice (some ⟨sb, 0, none⟩) 1 c)).setCell ⟨tb, 2, none⟩ (.int .i64 0)).drew := ((((Chg.refl (OneB tb) w13).setCell (p := ⟨tb, 0, none⟩) (.inl rfl) _).setCell (p := ⟨tb, 1, none⟩) (.inl rfl) _).setCell (p := ⟨tb, 2, none⟩) (.inl rfl) _).drew
 replace htC := htC.drew
 generalize World.drew (World.setCell (World.setCell (World.setCell w13 ⟨tb, 0, none⟩ (.slice none 0 0)) ⟨tb, 1, none⟩ (.slice (some ⟨sb, 0, none⟩) 1 c)) ⟨tb, 2, none⟩ (.int .i64 0)) = w14 at htC hcC ⊢
 have hbC := hbB.keep hcC (fun e => by have e : w.heap.size = tb := e; omega)
 have hrC := hrB.keep hcC (fun e => by have e : w2.heap.size = tb := e; omega)
 refine ⟨fun _ => ⟨hbC.cell 0, hbC.cell 1, hbC.cell 2, hrC.cell 0, hrC.cell 1, hrC.cell 2, hrC.cell 3, hrC.cell 4⟩, fun hSk => ?_⟩
 replace hSk := hSk (by rfl)
 clear q0 q1 q2 q4 q5 q6 q7 q8 f0 f1 f2 f4 f5 f6 f7 f8 c40 c41 c42 r0' r1' r2' r3' r4' hSh
 have q4 : w14.cell? ⟨tb, 4, none⟩ = some r0 := htC.cell 4
 have q5 : w14.cell? ⟨tb, 5, none⟩ = some r1 := htC.cell 5
 have q6 : w14.cell? ⟨tb, 6, none⟩ = some r2 := htC.cell 6
 have q7 : w14.cell? ⟨tb, 7, none⟩ = some r3 := htC.cell 7
 have q8 : w14.cell? ⟨tb, 8, none⟩ = some r4 := htC.cell 8
 have f4 : w14.frozen? ⟨tb, 4, none⟩ = false := htC.free 4
 have f5 : w14.frozen? ⟨tb, 5, none⟩ = false := htC.free 5
 have f6 : w14.frozen? ⟨tb, 6, none⟩ = false := htC.free 6
 have f7 : w14.frozen? ⟨tb, 7, none⟩ = false := htC.free 7
 have f8 : w14.frozen? ⟨tb, 8, none⟩ = false := htC.free 8
 refine n_step 7 rfl (by kernel_rfl) ?_
 go_wp2_with fail
 refine ⟨fun _ => hSk, fun _ => ?_⟩
 refine n_step 8 rfl (by kernel_rfl) ?_
 go_wp2_with fail
 refine ⟨fun _ => hSk, fun _ => ?_⟩
 refine n_step 9 rfl (by kernel_rfl) ?_
 go_wp2_with fail
 refine ⟨fun hx => absurd hx (by decide), fun _ => ?_⟩
 refine n_done (by kernel_rfl) ?_
 have htD := ((((htC.set 4 (.int .i64 0)).set 5 (.string rootName)).set 6 (.int .i64 1)).set 7 (.int .i64 0)).set 8 (.slice va 0 vc)
 have hcD : Chg (OneB tb) w14 (((((w14.setCell ⟨tb, 4, none⟩ (.int .i64 0)).setCell ⟨tb, 5, none⟩ (.string rootName)).setCell ⟨tb, 6, none⟩ (.int .i64 1)).setCell ⟨tb, 7, none⟩ (.int .i64 0)).setCell ⟨tb, 8, none⟩ (.slice va 0 vc)) := (((((Chg.refl (OneB tb) w14).setCell (p := ⟨tb, 4, none⟩) (.inl rfl) _).setCell (p := ⟨tb, 5, none⟩) (.inl rfl) _).setCell (p := ⟨tb, 6, none⟩) (.inl rfl) _).setCell (p := ⟨tb, 7, none⟩) (.inl rfl) _).setCell (p := ⟨tb, 8, none⟩) (.inl rfl) _
 generalize World.setCell (World.setCell (World.setCell (World.setCell (World.setCell w14 ⟨tb, 4, none⟩ (.int .i64 0)) ⟨tb, 5, none⟩ (.string rootName)) ⟨tb, 6, none⟩ (.int .i64 1)) ⟨tb, 7, none⟩ (.int .i64 0)) ⟨tb, 8, none⟩ (.slice va 0 vc) = wD at htD hcD ⊢
 clear hSk q4 q5 q6 q7 q8 f4 f5 f6 f7 f8
 go_wp2_with fail
 go_ret
 exact ⟨rfl, htD.cell 0, htD.cell 1, (hc0B.trans hcC (fun b e => .inl (.inl e))).trans hcD (fun b e => .inl (.inl e))⟩
end Go.Proofs.YtnmhkafpgohefaaGreatDoor
