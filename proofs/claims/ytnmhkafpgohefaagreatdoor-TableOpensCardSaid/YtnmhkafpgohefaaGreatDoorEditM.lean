/-
  evolve's edit: move.
-/
import Derived.Test.YtnmhkafpgohefaaGreatDoorEditU
import Derived.Test.YtnmhkafpgohefaaGreatDoorShort
set_option linter.unusedVariables false
set_option maxHeartbeats 20000000
set_option maxRecDepth 100000
set_option linter.unusedSimpArgs false
namespace Go.Proofs.YtnmhkafpgohefaaGreatDoor
open Go.RowKit
theorem edit_move_num (B0 gb : Nat) (E : Er → Value) (N K : Value) (line w0 s1 s2 : ByteArray) (hws : wordsB line = [w0, s1, s2]) (l : List Nd) (nx m : Int) (F : List Nat) (w : World) (hG : EvG B0 E N K m w) (hl : line.size ≤ 10000) (hw0d : w0 = bMove) (id : Int) (hnum : numF s1.data.toList = some id) (hnum2 : numF s2.data.toList = none) :
  Calls Tryz.prog 30 #[.pointer (some ⟨gb, 0, none⟩), .string line] w (RetEd B0 gb E N K (.bad (.er .text)) F w) := by
 have hk : manyF w0 = some 2 := by rw [hw0d]; decide +kernel
 have Hw0d := Lib.hid hw0d
 clear hw0d
 have hsp := Tryz.strings_Split line ⟨#[32]⟩ m w (by omega) hG.max (by decide)
 have hwl := words_len line
 have hwsz := words_size line
 have hwc := words_count line
 rw [split_words, ← hwl, hws] at hsp
 rw [hws] at hwsz hwc
 have hw0 := hwsz w0 (List.mem_cons_self ..)
 simp only [List.length_cons, List.length_nil, Nat.zero_add, Nat.reduceAdd] at hsp hwc
 obtain ⟨Tx, vx, hEx⟩ := hG.glo.errs.form .text
 have HEx := Lib.hid hEx
 have Hwsz := Lib.hid hwsz
 have hna : ¬ w0 = bAdd := fun e => by rw [e, many_add] at hk; cases hk
 have hab : (w0.toList == [97, 100, 100]) = false := by rw [bytes_beq]; exact decide_eq_false hna
 clear hwl hws hEx hwsz hna
 go_enter Tryz.func30, Tryz.ntmps30
 go_wp2_with fail
 refine hsp.mono ?_
 rintro en w1 ⟨rfl, hww⟩
 have hc1 : Chg NoB w w1 := by
  rw [← hww.symm]
  repeat (first | exact Chg.refl _ _ | apply Chg.alloc | apply Chg.drew)
 have hb1 : Blk w1 w.heap.size (([w0, s1, s2]).map Value.string) 9 := by rw [hww]; exact Blk.newAt rfl
 clear hsp hww
 have e0 : w1.cell? ⟨w.heap.size, 0, none⟩ = some (.string w0) := hb1.cell 0
 have hz1 := hb1.lt
 have hG1 := hG.keep0 hc1
 have htx := hG1.glo.errs.cell .text
 simp only [Er.g] at htx
 rw [HEx.out] at htx
 go_wp2_with fail
 refine wp_region_n (fun w' => w'.cell? ⟨w.heap.size, 0, none⟩ = some (.string w0)) [] (by kernel_rfl) ?_ (fun hSh => ?_)
 ·exact e0
 refine n_from 1 ?_
 intro htk
 iterate 3
  refine n_tB (v := ?_) htk rfl (Or.inl ⟨by rfl, ?_⟩) ?_
  rotate_left 1
  ·(intro w' hSw; (try dsimp only at hSw); go_simp; try with_reducible rfl)
  clear htk
  intro htk
  simp only [Nat.reduceAdd] at htk
  simp only [Act.put, qA, qB, qC, qD, qE, qF]
 clear htk
 refine n_step 0 rfl (by kernel_rfl) ?_
 go_wp2_with fail
 refine (many_any w1.drew).mono ?_
 rintro en w2 ⟨bm, D, rfl, hSM, hMD, hc2⟩
 have hc02 : Chg NoB w w2 := hc1.tr hc2.ofDrew
 have hb2 := hb1.keep hc2.ofDrew nbE
 have hlM := hSM.lt
 obtain ⟨cM, hlk, hcn⟩ := many_look hSM hMD w0 (by unfold maxLen; omega)
 rw [hk] at hlk hcn
 have Hcn := Lib.hid hcn
 have HMD := Lib.hid hMD
 clear hcn hMD
 go_wp2_with fail
 refine ⟨fun _ => hb2.cell 0, fun hSk => ?_⟩
 replace hSk := hSk (by rfl)
 refine n_step 4 rfl (by kernel_rfl) ?_
 go_wp2_with fail
 refine ⟨fun _ => hb2.cell 0, fun hSk => ?_⟩
 replace hSk := hSk (by rfl)
 refine n_from 5 ?_
 intro htk
 iterate 5
  refine n_tB (v := ?_) htk rfl (Or.inl ⟨by rfl, ?_⟩) ?_
  rotate_left 1
  ·(intro w' hSw; (try dsimp only at hSw); go_simp; try with_reducible rfl)
  clear htk
  intro htk
  simp only [Nat.reduceAdd] at htk
  simp only [Act.put, qA, qB, qC, qD, qE, qF]
 clear htk
 refine n_done (by kernel_rfl) ?_
 clear hSk hSh e0 htx
 have e0 : w2.cell? ⟨w.heap.size, 0, none⟩ = some (.string w0) := hb2.cell 0
 have hG2 := hG.keep0 hc02
 have htx := hG2.glo.errs.cell .text
 simp only [Er.g] at htx
 rw [HEx.out] at htx
 obtain rfl := Hcn.out 2 rfl
 have hs1 : s1.size ≤ 10000 := by have := Hwsz.out s1 (List.mem_cons_of_mem _ (List.mem_cons_self ..)); omega
 have e1 : w2.cell? ⟨w.heap.size, 1, none⟩ = some (.string s1) := hb2.cell 1
 have hz2 := hb2.lt
 have hnumE := number_any s1 w2 hG2.glo (by omega)
 clear hlk
 go_wp2_with fail
 refine hnumE.mono ?_
 rintro en w3 ⟨vn, rfl, hc3, hvn⟩
 clear hnumE
 have Hvn := Lib.hid hvn
 have hc03 := hc02.tr hc3
 have hb3 := hb2.keep hc3 nbE
 have hG3 := hG.keep0 hc03
 clear hvn e0 e1 htx
 have e0 : w3.cell? ⟨w.heap.size, 0, none⟩ = some (.string w0) := hb3.cell 0
 have e1 : w3.cell? ⟨w.heap.size, 1, none⟩ = some (.string s1) := hb3.cell 1
 have hz3 := hb3.lt
 have htx := hG3.glo.errs.cell .text
 simp only [Er.g] at htx
 rw [HEx.out] at htx
 have htxl : 2 < w3.heap.size := lt_of_cell htx
 have hvi := Hvn.out id hnum
 subst vn
 rw [hnum]
 have hq1 : ((w0).toList == [109, 111, 118, 101]) = decide (w0 = bMove) := by rw [bytes_beq]; rfl
 have hq2 : ((w0).toList == [100, 114, 111, 112]) = decide (w0 = bDrop) := by rw [bytes_beq]; rfl
 have hq3 : ((w0).toList == [114, 101, 110, 97, 109, 101]) = decide (w0 = bRename) := by rw [bytes_beq]; rfl
 have hq4 : ((w0).toList == [119, 105, 100, 101, 110]) = decide (w0 = bWiden) := by rw [bytes_beq]; rfl
 have hq5 : ((w0).toList == [108, 111, 111, 115, 101, 110]) = decide (w0 = bLoosen) := by rw [bytes_beq]; rfl
 rw [decide_eq_false (by rw [Hw0d.out]; decide +kernel)] at hq2 hq3 hq4 hq5
 rw [decide_eq_true Hw0d.out] at hq1
 clear hnum
 have hs2 : s2.size ≤ 10000 := by have := Hwsz.out s2 (List.mem_cons_of_mem _ (List.mem_cons_of_mem _ (List.mem_cons_self ..))); omega
 have e2 : w3.cell? ⟨w.heap.size, 2, none⟩ = some (.string s2) := hb3.cell 2
 go_wp2_with fail
 generalize hwi : World.alloc w3 _ = wi
 have hci : Chg NoB w3 wi := by
  rw [← hwi]
  repeat (first | exact Chg.refl _ _ | apply Chg.alloc | apply Chg.drew)
 have hbi : Blk wi (w3.heap.size) ([.int .i64 id]) 3 := by
  rw [← hwi]
  repeat (first | exact Blk.newAt (by first | rfl | (simp; done) | (simp; omega)) | apply Blk.alloc | apply Blk.drew)
 clear hwi
 have hc0i := hc03.tr hci
 have hbi3 := hb3.keep hci nbE
 have hGi := hG.keep0 hc0i
 refine (number_any s2 wi hGi.glo (by omega)).mono ?_
 rintro en w4 ⟨vn2, rfl, hc4, hvn2⟩
 have Hvn2 := Lib.hid hvn2
 have hc04 := hc0i.tr hc4
 have hb4 := hbi3.keep hc4 nbE
 have hbi4 := hbi.keep hc4 nbE
 have hG4 := hG.keep0 hc04
 clear hvn2 e0 e1 e2 htx
 have e0 : w4.cell? ⟨w.heap.size, 0, none⟩ = some (.string w0) := hb4.cell 0
 have e1 : w4.cell? ⟨w.heap.size, 1, none⟩ = some (.string s1) := hb4.cell 1
 have i0 : w4.cell? ⟨w3.heap.size, 0, none⟩ = some (.int .i64 id) := hbi4.cell 0
 have hz4 := hb4.lt
 have li4 := hbi4.lt
 have htx := hG4.glo.errs.cell .text
 simp only [Er.g] at htx
 rw [HEx.out] at htx
 have htxl4 : 2 < w4.heap.size := lt_of_cell htx
 rw [hnum2]
 go_wp2_with fail
 go_ret
 exact ⟨hc04.mono (fun _ _ e => nbE e), congrArg Ending.returned HEx.out.symm⟩
theorem foot_perm {L M : List Ch} (h : L.Perm M) : (footL L).Perm (footL M) := by
 unfold footL
 exact h.flatMap_right _
theorem edit_move (B0 gb : Nat) (E : Er → Value) (N K : Value) (line w0 s1 s2 : ByteArray) (hws : wordsB line = [w0, s1, s2]) (l : List Nd) (nx m : Int) (F : List Nat) (w : World) (hG : EvG B0 E N K m w) (hl : line.size ≤ 10000) (hB : B0 ≤ gb) (hL : LogSt w B0 gb l nx F) (hn : (idsL l).Nodup) (hwe : Nd.weighs l ≤ 1000) (hw0d : w0 = bMove) (id : Int) (hnum : numF s1.data.toList = some id) (p : Int) (hnum2 : numF s2.data.toList = some p) (hp0 : 0 ≤ p) :
  Calls Tryz.prog 30 #[.pointer (some ⟨gb, 0, none⟩), .string line] w (RetEd B0 gb E N K (opF w0 s2 id p l nx) F w) := by
 have hk : manyF w0 = some 2 := by rw [hw0d]; decide +kernel
 have hnn : (idsL (rootNd l).sub).Nodup := hn
 have Hw0d := Lib.hid hw0d
 clear hw0d
 have hsp := Tryz.strings_Split line ⟨#[32]⟩ m w (by omega) hG.max (by decide)
 have hwl := words_len line
 have hwsz := words_size line
 have hwc := words_count line
 rw [split_words, ← hwl, hws] at hsp
 rw [hws] at hwsz hwc
 have hw0 := hwsz w0 (List.mem_cons_self ..)
 simp only [List.length_cons, List.length_nil, Nat.zero_add, Nat.reduceAdd] at hsp hwc
 obtain ⟨Tx, vx, hEx⟩ := hG.glo.errs.form .text
 have HEx := Lib.hid hEx
 have Hwsz := Lib.hid hwsz
 have hna : ¬ w0 = bAdd := fun e => by rw [e, many_add] at hk; cases hk
 have hab : (w0.toList == [97, 100, 100]) = false := by rw [bytes_beq]; exact decide_eq_false hna
 clear hwl hws hEx hwsz hna
 go_enter Tryz.func30, Tryz.ntmps30
 go_wp2_with fail
 refine hsp.mono ?_
 rintro en w1 ⟨rfl, hww⟩
 have hc1 : Chg NoB w w1 := by
  rw [← hww.symm]
  repeat (first | exact Chg.refl _ _ | apply Chg.alloc | apply Chg.drew)
 have hb1 : Blk w1 w.heap.size (([w0, s1, s2]).map Value.string) 9 := by rw [hww]; exact Blk.newAt rfl
 clear hsp hww
 have e0 : w1.cell? ⟨w.heap.size, 0, none⟩ = some (.string w0) := hb1.cell 0
 have hz1 := hb1.lt
 have hG1 := hG.keep0 hc1
 have htx := hG1.glo.errs.cell .text
 simp only [Er.g] at htx
 rw [HEx.out] at htx
 go_wp2_with fail
 refine wp_region_n (fun w' => w'.cell? ⟨w.heap.size, 0, none⟩ = some (.string w0)) [] (by kernel_rfl) ?_ (fun hSh => ?_)
 ·exact e0
 refine n_from 1 ?_
 intro htk
 iterate 3
  refine n_tB (v := ?_) htk rfl (Or.inl ⟨by rfl, ?_⟩) ?_
  rotate_left 1
  ·(intro w' hSw; (try dsimp only at hSw); go_simp; try with_reducible rfl)
  clear htk
  intro htk
  simp only [Nat.reduceAdd] at htk
  simp only [Act.put, qA, qB, qC, qD, qE, qF]
 clear htk
 refine n_step 0 rfl (by kernel_rfl) ?_
 go_wp2_with fail
 refine (many_any w1.drew).mono ?_
 rintro en w2 ⟨bm, D, rfl, hSM, hMD, hc2⟩
 have hc02 : Chg NoB w w2 := hc1.tr hc2.ofDrew
 have hb2 := hb1.keep hc2.ofDrew nbE
 have hlM := hSM.lt
 obtain ⟨cM, hlk, hcn⟩ := many_look hSM hMD w0 (by unfold maxLen; omega)
 rw [hk] at hlk hcn
 have Hcn := Lib.hid hcn
 have HMD := Lib.hid hMD
 clear hcn hMD
 go_wp2_with fail
 refine ⟨fun _ => hb2.cell 0, fun hSk => ?_⟩
 replace hSk := hSk (by rfl)
 refine n_step 4 rfl (by kernel_rfl) ?_
 go_wp2_with fail
 refine ⟨fun _ => hb2.cell 0, fun hSk => ?_⟩
 replace hSk := hSk (by rfl)
 refine n_from 5 ?_
 intro htk
 iterate 5
  refine n_tB (v := ?_) htk rfl (Or.inl ⟨by rfl, ?_⟩) ?_
  rotate_left 1
  ·(intro w' hSw; (try dsimp only at hSw); go_simp; try with_reducible rfl)
  clear htk
  intro htk
  simp only [Nat.reduceAdd] at htk
  simp only [Act.put, qA, qB, qC, qD, qE, qF]
 clear htk
 refine n_done (by kernel_rfl) ?_
 clear hSk hSh e0 htx
 have e0 : w2.cell? ⟨w.heap.size, 0, none⟩ = some (.string w0) := hb2.cell 0
 have hG2 := hG.keep0 hc02
 have htx := hG2.glo.errs.cell .text
 simp only [Er.g] at htx
 rw [HEx.out] at htx
 obtain rfl := Hcn.out 2 rfl
 have hs1 : s1.size ≤ 10000 := by have := Hwsz.out s1 (List.mem_cons_of_mem _ (List.mem_cons_self ..)); omega
 have e1 : w2.cell? ⟨w.heap.size, 1, none⟩ = some (.string s1) := hb2.cell 1
 have hz2 := hb2.lt
 have hnumE := number_any s1 w2 hG2.glo (by omega)
 clear hlk
 go_wp2_with fail
 refine hnumE.mono ?_
 rintro en w3 ⟨vn, rfl, hc3, hvn⟩
 clear hnumE
 have Hvn := Lib.hid hvn
 have hc03 := hc02.tr hc3
 have hb3 := hb2.keep hc3 nbE
 have hG3 := hG.keep0 hc03
 clear hvn e0 e1 htx
 have e0 : w3.cell? ⟨w.heap.size, 0, none⟩ = some (.string w0) := hb3.cell 0
 have e1 : w3.cell? ⟨w.heap.size, 1, none⟩ = some (.string s1) := hb3.cell 1
 have hz3 := hb3.lt
 have htx := hG3.glo.errs.cell .text
 simp only [Er.g] at htx
 rw [HEx.out] at htx
 have htxl : 2 < w3.heap.size := lt_of_cell htx
 have hvi := Hvn.out id hnum
 subst vn
 rw [hnum]
 have hq1 : ((w0).toList == [109, 111, 118, 101]) = decide (w0 = bMove) := by rw [bytes_beq]; rfl
 have hq2 : ((w0).toList == [100, 114, 111, 112]) = decide (w0 = bDrop) := by rw [bytes_beq]; rfl
 have hq3 : ((w0).toList == [114, 101, 110, 97, 109, 101]) = decide (w0 = bRename) := by rw [bytes_beq]; rfl
 have hq4 : ((w0).toList == [119, 105, 100, 101, 110]) = decide (w0 = bWiden) := by rw [bytes_beq]; rfl
 have hq5 : ((w0).toList == [108, 111, 111, 115, 101, 110]) = decide (w0 = bLoosen) := by rw [bytes_beq]; rfl
 rw [decide_eq_false (by rw [Hw0d.out]; decide +kernel)] at hq2 hq3 hq4 hq5
 rw [decide_eq_true Hw0d.out] at hq1
 clear hnum
 have hs2 : s2.size ≤ 10000 := by have := Hwsz.out s2 (List.mem_cons_of_mem _ (List.mem_cons_of_mem _ (List.mem_cons_self ..))); omega
 have e2 : w3.cell? ⟨w.heap.size, 2, none⟩ = some (.string s2) := hb3.cell 2
 go_wp2_with fail
 generalize hwi : World.alloc w3 _ = wi
 have hci : Chg NoB w3 wi := by
  rw [← hwi]
  repeat (first | exact Chg.refl _ _ | apply Chg.alloc | apply Chg.drew)
 have hbi : Blk wi (w3.heap.size) ([.int .i64 id]) 3 := by
  rw [← hwi]
  repeat (first | exact Blk.newAt (by first | rfl | (simp; done) | (simp; omega)) | apply Blk.alloc | apply Blk.drew)
 clear hwi
 have hc0i := hc03.tr hci
 have hbi3 := hb3.keep hci nbE
 have hGi := hG.keep0 hc0i
 refine (number_any s2 wi hGi.glo (by omega)).mono ?_
 rintro en w4 ⟨vn2, rfl, hc4, hvn2⟩
 have Hvn2 := Lib.hid hvn2
 have hc04 := hc0i.tr hc4
 have hb4 := hbi3.keep hc4 nbE
 have hbi4 := hbi.keep hc4 nbE
 have hG4 := hG.keep0 hc04
 clear hvn2 e0 e1 e2 htx
 have e0 : w4.cell? ⟨w.heap.size, 0, none⟩ = some (.string w0) := hb4.cell 0
 have e1 : w4.cell? ⟨w.heap.size, 1, none⟩ = some (.string s1) := hb4.cell 1
 have i0 : w4.cell? ⟨w3.heap.size, 0, none⟩ = some (.int .i64 id) := hbi4.cell 0
 have hz4 := hb4.lt
 have li4 := hbi4.lt
 have htx := hG4.glo.errs.cell .text
 simp only [Er.g] at htx
 rw [HEx.out] at htx
 have htxl4 : 2 < w4.heap.size := lt_of_cell htx
 have hvi2 := Hvn2.out p hnum2
 subst vn2
 rw [hnum2]
 clear hnum2
 go_wp2_with fail
 refine wp_region_n (fun w' => w'.cell? ⟨w3.heap.size, 0, none⟩ = some (.int .i64 id)) [] (by kernel_rfl) ?_ (fun hSh => ?_)
 ·exact i0
 refine n_from 0 ?_
 intro htk
 iterate 4
  refine n_tB (v := ?_) htk rfl (Or.inl ⟨by rfl, ?_⟩) ?_
  rotate_left 1
  ·(intro w' hSw; (try dsimp only at hSw); go_simp; try with_reducible rfl)
  clear htk
  intro htk
  simp only [Nat.reduceAdd] at htk
  simp only [Act.put, qA, qB, qC, qD, qE, qF]
 clear htk
 refine n_step 4 rfl (by kernel_rfl) ?_
 go_wp2_with fail
 refine (at_any w B0 id _ gb 0 (rootNd l) F w4.drew (Nat.le_refl _) hL.pt hc04.drew).mono ?_
 rintro en w5 ⟨hc5, (⟨hno, rfl⟩ | ⟨hb, ho, h, Fh, C, rb, cap, j, q, rfl, hin, hq, hqid, hcell⟩)⟩
 ·have hc05 : Chg NoB w w5 := hc04.tr hc5.ofDrew
  have hbi5 := hbi4.keep hc5.ofDrew nbE
  have hb5 := hb4.keep hc5.ofDrew nbE
  have hG5 := hG.keep0 hc05
  go_wp2_with fail
  refine ⟨fun _ => hbi5.cell 0, fun hSk => ?_⟩
  replace hSk := hSk (by rfl)
  refine n_from 5 ?_
  intro htk
  iterate 5
   refine n_tB (v := ?_) htk rfl (Or.inl ⟨by rfl, ?_⟩) ?_
   rotate_left 1
   ·(intro w' hSw; (try dsimp only at hSw); go_simp; try with_reducible rfl)
   clear htk
   intro htk
   simp only [Nat.reduceAdd] at htk
   simp only [Act.put, qA, qB, qC, qD, qE, qF]
  clear htk
  refine n_done (by kernel_rfl) ?_
  clear hSk hSh i0 e0 e1 htx
  have i0 : w5.cell? ⟨w3.heap.size, 0, none⟩ = some (.int .i64 id) := hbi5.cell 0
  have e0 : w5.cell? ⟨w.heap.size, 0, none⟩ = some (.string w0) := hb5.cell 0
  have e1 : w5.cell? ⟨w.heap.size, 1, none⟩ = some (.string s1) := hb5.cell 1
  have li5 := hbi5.lt
  have lb5 := hb5.lt
  have gn := hG5.non
  obtain ⟨Tn, vN, hN⟩ := hG.nform
  rw [hN] at gn
  have HN := Lib.hid hN
  clear hN
  go_wp2_with fail
  go_ret
  have hres : fndL id l = none := fndL_no id l hno
  unfold opF
  rw [hres]
  exact ⟨hc05.mono (fun _ _ e => nbE e), congrArg Ending.returned HN.out.symm⟩
 ·have hc05 : Chg NoB w w5 := hc04.tr hc5.ofDrew
  have hbi5 := hbi4.keep hc5.ofDrew nbE
  have hb5 := hb4.keep hc5.ofDrew nbE
  have hG5 := hG.keep0 hc05
  go_wp2_with fail
  refine ⟨fun _ => hbi5.cell 0, fun hSk => ?_⟩
  replace hSk := hSk (by rfl)
  refine n_from 5 ?_
  intro htk
  iterate 5
   refine n_tB (v := ?_) htk rfl (Or.inl ⟨by rfl, ?_⟩) ?_
   rotate_left 1
   ·(intro w' hSw; (try dsimp only at hSw); go_simp; try with_reducible rfl)
   clear htk
   intro htk
   simp only [Nat.reduceAdd] at htk
   simp only [Act.put, qA, qB, qC, qD, qE, qF]
  clear htk
  refine n_done (by kernel_rfl) ?_
  clear hSk hSh i0 e0 e1 htx
  have i0 : w5.cell? ⟨w3.heap.size, 0, none⟩ = some (.int .i64 id) := hbi5.cell 0
  have e0 : w5.cell? ⟨w.heap.size, 0, none⟩ = some (.string w0) := hb5.cell 0
  have e1 : w5.cell? ⟨w.heap.size, 1, none⟩ = some (.string s1) := hb5.cell 1
  have li5 := hbi5.lt
  have lb5 := hb5.lt
  have hfnd : fndL id l = some q := holds_fnd hin.path hq hqid hnn
  have hfg : fndG id (rootNd l) = some h.sub := holds_fndG hin.path hq hqid hnn
  have HLog := Lib.hid hL
  have Hfnd := Lib.hid hfnd
  have Hfg := Lib.hid hfg
  have c5 : w5.cell? ⟨hb, ho + 4, none⟩ = some (.slice (some ⟨rb, 0, none⟩) h.sub.length cap) := (hc05.cell (p := ⟨hb, ho + 4, none⟩) (lt_of_cell hcell) nbE).trans hcell
  have lc5 := lt_of_cell c5
  by_cases hp : (h.sub.length : Int) ≤ p
  ·have gn := hG5.glo.errs.cell .bound
   simp only [Er.g] at gn
   obtain ⟨Tn, vN, hN⟩ := hG.glo.errs.form .bound
   rw [hN] at gn
   have HN := Lib.hid hN
   have Hp := Lib.hid hp
   have hpi : ¬ p < (h.sub.length : Int) := by omega
   clear hN hfnd hfg hcell hq hqid hin
   go_wp2_with fail
   go_ret
   unfold opF
   rw [Hfnd.out]
   dsimp only
   rw [if_neg (by rw [Hw0d.out]; decide +kernel), if_neg (by rw [Hw0d.out]; decide +kernel), if_pos Hw0d.out, Hfg.out]
   dsimp only
   rw [if_pos Hp.out]
   exact ⟨hc05.mono (fun _ _ e => nbE e), congrArg Ending.returned HN.out.symm⟩
  ·have hpl : p < (h.sub.length : Int) := by omega
   have hnd := holds_nodup hin.path hnn
   obtain ⟨l1, l2, hsl, hlj, hl1, hmov⟩ := movTo_at hq hqid hnd p.toNat
   have Hgrp := Lib.hid ((holds_grp hin.path hq hqid hnn).2 (movTo id p.toNat))
   obtain ⟨hi', hnm, hr', hk', hs⟩ := h
   simp only [Nd.sub] at hq hcell hpl hp hsl hmov c5 hnd
   obtain ⟨rb', cap', Fc, z4, hle1, hle2, hrbF, hFcF, hpc, hup⟩ := hin.pt.child hq
   obtain ⟨he1, -, he3⟩ := Value.slice.inj (Option.some.inj (hcell.symm.trans z4))
   obtain rfl : rb = rb' := by simpa using he1
   obtain rfl := he3
   have hrbw : rb < w.heap.size := (hin.pt.lt.2 rb hrbF).2
   have hfzw : w.frozen? ⟨hb, ho + 4, none⟩ = false := by
    obtain ⟨_, _, _, _, _, _, _, h9⟩ := hin.pt.form
    exact h9 _
   have hhbw : hb < w.heap.size := hin.pt.lt.1
   have hbrb : hb ≠ rb := fun e => by
    obtain ⟨_, _, _, _, _, _, _, hbF, _⟩ := hin.pt
    exact hbF (e ▸ hrbF)
   obtain ⟨vh, htl, _, _, _, _, k4, _⟩ := hin.pt.form
   obtain rfl := Option.some.inj (k4.symm.trans hcell)
   have htl5 := htl.keep (fun x hx => hc05.block x (htl.lt x hx).2 nbE)
   have hidx := indexE_any hs id w3.heap.size w5 (fun _ => True) _ (htl5.reads (fun _ _ => trivial)) i0
   have hjl := (List.getElem?_eq_some_iff.1 hq).1
   unfold maxLen at hle2
   obtain ⟨qi, qn, qr, qk, qs⟩ := q
   obtain ⟨vq, htq, m0, m1, m2, m3, m4, _⟩ := (hpc.keep0 hc05).form
   obtain ⟨qa, qcap, rfl, _, _⟩ := htq.form
   clear htq
   have hjk : ∀ k : Int, ((k = -1 ∧ ∀ a ∈ hs, idB id a = false) ∨ ∃ j0 a, k = (j0 : Nat) ∧ hs[j0]? = some a ∧ idB id a = true ∧ ∀ i a', i < j0 → hs[i]? = some a' → idB id a' = false) → k = (j : Nat) := by
    intro k hk
    have hqb : idB id (.mk qi qn qr qk qs) = true := by simpa [idB] using hqid
    rcases hk with ⟨_, hall⟩ | ⟨j0, a, rfl, ha, hab2, hbef⟩
    ·have := hall _ (List.mem_of_getElem? hq)
     rw [this] at hqb; cases hqb
    ·have h1 : ¬ j < j0 := fun e => by have := hbef j _ e hq; rw [this] at hqb; cases hqb
     have h2 : ¬ j0 < j := fun e => by
      rw [hsl, List.getElem?_append_left (by omega)] at ha
      exact hl1 a (List.mem_of_getElem? ha) (by simpa [idB] using hab2)
     have : j0 = j := by omega
     rw [this]
   have Hjk := Lib.hid hjk
   have Hhup := Lib.hid hup
   have Hin := Lib.hid hin
   have Hsl := Lib.hid hsl
   have Hmov := Lib.hid hmov
   have Htl := Lib.hid htl
   have Hpc := Lib.hid hpc
   have Hnd := Lib.hid hnd
   have Hq := Lib.hid hq
   clear hjk hup hin hsl hmov htl htl5 hpc hnd hq hfnd hfg hcell hqid k4 z4 hl1
   go_wp2_with fail
   refine hidx.mono ?_
   rintro en w6 ⟨k, rfl, hk, hc6⟩
   obtain rfl := Hjk.out k hk
   clear hidx hk
   have hc56 : Chg NoB w w6 := hc05.tr hc6
   have c6 := (hc6.cell (p := ⟨hb, ho + 4, none⟩) lc5 nbE).trans c5
   have o0 := (hc6.cell (p := ⟨rb, j * 5, none⟩) (lt_of_cell m0) nbE).trans m0
   have o1 := (hc6.cell (p := ⟨rb, j * 5 + 1, none⟩) (lt_of_cell m1) nbE).trans m1
   have o2 := (hc6.cell (p := ⟨rb, j * 5 + 2, none⟩) (lt_of_cell m2) nbE).trans m2
   have o3 := (hc6.cell (p := ⟨rb, j * 5 + 3, none⟩) (lt_of_cell m3) nbE).trans m3
   have o4 := (hc6.cell (p := ⟨rb, j * 5 + 4, none⟩) (lt_of_cell m4) nbE).trans m4
   clear m0 m1 m2 m3 m4 c5 lc5
   have lc6 := lt_of_cell c6
   go_wp2_with fail
   generalize hw7 : World.alloc w6 _ = w7
   have hc7 : Chg NoB w6 w7 := by
    rw [← hw7]
    repeat (first | exact Chg.refl _ _ | apply Chg.alloc | apply Chg.drew)
   have hb7 : Blk w7 (w6.heap.size) ([.int .i64 qi, .string qn, .int .i64 qr, .int .i64 qk, .slice qa qs.length qcap]) 56 := by
    rw [← hw7]
    repeat (first | exact Blk.newAt (by first | rfl | (simp; done) | (simp; omega)) | apply Blk.alloc | apply Blk.drew)
   clear hw7
   have c7 := (hc7.cell (p := ⟨hb, ho + 4, none⟩) lc6 nbE).trans c6
   have hjI : (j : Int) + 1 ≤ 9223372036854775807 := by omega
   have Ho4 := Lib.hid ((hc7.cell (p := ⟨rb, j * 5 + 4, none⟩) (lt_of_cell o4) nbE).trans o4)
   clear o0 o1 o2 o3 o4 c6 lc6
   have hjls : j < hs.length := hjl
   have htl7 := Htl.out.keep (fun x hx => (hc56.tr hc7).block x (Htl.out.lt x hx).2 nbE)
   rcases htl7 with ⟨h0, _⟩ | ⟨g, cap', cur, F1, e1, e2, e3, e4, e5, e6, e7, rfl⟩
   ·rw [h0] at hjls; simp at hjls
   obtain ⟨hg1, -, hg2⟩ := Value.slice.inj e1
   obtain rfl : rb = g := by simpa using hg1
   obtain rfl := hg2
   obtain ⟨L, r, hLs, rfl, rfl, hL⟩ := e7.chunks
   have hLl : L.length = hs.length := by rw [← hLs, List.length_map]
   obtain ⟨L1, L2, hL12, hL1, _⟩ := list_split (show L[j]? = some L[j] from List.getElem?_eq_getElem (by omega))
   generalize L[j] = x0 at hL12
   subst hL12
   have hLn : L1.length + 1 + L2.length = hs.length := by rw [← hLl, List.length_append, List.length_cons]; omega
   have h5 : ∀ y ∈ L1 ++ x0 :: L2, y.2.1.length = 5 := fun y hy => (hL y hy).five
   have Hdel := Lib.hid (show ∀ W, Chg NoB w7 W → Calls Tryz.prog 57 #[.slice (some ⟨rb, 0, none⟩) hs.length cap, .int .i64 (j : Nat), .int .i64 ((j : Int) + 1)] W (RetRow (.slice (some ⟨rb, 0, none⟩) (j + L2.length) cap) rb (celL (L1 ++ L2)) (celL (L1 ++ x0 :: L2) ++ r).length W) from fun W hW => by
    rw [show hs.length = j + 1 + L2.length from by omega]
    exact del1_any L1 L2 x0 r rb j L2.length cap W hL1 rfl (e5.keep hW nbE) h5 (fun y hy => (hL y (List.mem_append_right _ (List.mem_cons_of_mem _ hy))).cells1) (by omega) hle2)
   -- the found node's cells
   have hjq : (L1 ++ x0 :: L2)[j]? = some x0 := by rw [List.getElem?_append_right (by omega), hL1]; simp
   have hx01 : x0.1 = Nd.mk qi qn qr qk qs := by
    have h1 := Hq.out
    rw [← hLs, List.getElem?_map, hjq] at h1
    exact Option.some.inj h1
   have hx0 := hL x0 (List.mem_append_right _ (List.mem_cons_self ..))
   obtain ⟨x0n, x0c, x0f⟩ := x0
   dsimp only at hx01 hx0
   subst hx01
   obtain ⟨v0, rfl, _⟩ := trN.1 hx0
   have hl1 : (celL L1).length = j * 5 := by rw [celL_len _ (fun y hy => h5 y (List.mem_append_left _ hy)), hL1]
   have hv0 : v0 = .slice qa qs.length qcap := by
    have h1 := five_at (show Blk w7 rb (celL L1 ++ (ndCells qi qn qr qk v0 ++ (celL L2 ++ r))) 56 by
     have h2 := e5
     rw [show L1 ++ (Nd.mk qi qn qr qk qs, ndCells qi qn qr qk v0, x0f) :: L2 = L1 ++ ((Nd.mk qi qn qr qk qs, ndCells qi qn qr qk v0, x0f) :: L2) from rfl] at h2
     have h3 : (L1 ++ (Nd.mk qi qn qr qk qs, ndCells qi qn qr qk v0, x0f) :: L2).flatMap (fun x => x.2.1) ++ r = celL L1 ++ (ndCells qi qn qr qk v0 ++ (celL L2 ++ r)) := by
      simp [celL, List.flatMap_append]
     rw [h3] at h2
     exact h2) hl1
    have h6 := h1.2.2.2.2
    exact Option.some.inj (h6.symm.trans Ho4.out)
   subst hv0
   obtain ⟨pn, rfl⟩ := Int.eq_ofNat_of_zero_le hp0
   have hpn : pn ≤ j + L2.length := by omega
   have Hins := Lib.hid (show ∀ (W : World) (vb : Nat) (r8 : List Value), Blk W rb (celL (L1 ++ L2) ++ r8) 56 → (celL (L1 ++ L2) ++ r8).length = cap * 5 → Blk W vb (ndCells qi qn qr qk (.slice qa qs.length qcap)) 56 → vb ≠ rb →
     Calls Tryz.prog 56 #[.slice (some ⟨rb, 0, none⟩) (j + L2.length) cap, .int .i64 (pn : Int), .slice (some ⟨vb, 0, none⟩) 1 1] W (RetRow (.slice (some ⟨rb, 0, none⟩) (j + L2.length + 1) cap) rb (celL ((L1 ++ L2).take pn ++ (Nd.mk qi qn qr qk qs, ndCells qi qn qr qk (.slice qa qs.length qcap), x0f) :: (L1 ++ L2).drop pn)) (cap * 5) W) from fun W vb r8 hb8 hl8 hv8 hne => by
    have hlen : (L1 ++ L2).length = j + L2.length := by rw [List.length_append, hL1]
    have hmem : ∀ y ∈ L1 ++ L2, y ∈ L1 ++ (Nd.mk qi qn qr qk qs, ndCells qi qn qr qk (.slice qa qs.length qcap), x0f) :: L2 := fun y hy => by
     rcases List.mem_append.1 hy with hy | hy
     ·exact List.mem_append_left _ hy
     ·exact List.mem_append_right _ (List.mem_cons_of_mem _ hy)
    have h9 := ins1_any ((L1 ++ L2).take pn) ((L1 ++ L2).drop pn) (Nd.mk qi qn qr qk qs, ndCells qi qn qr qk (.slice qa qs.length qcap), x0f) r8 rb pn (j + L2.length - pn) cap vb W (by rw [List.length_take]; omega) (by rw [List.length_drop, hlen]) (by rw [List.take_append_drop]; exact hb8) (by rw [List.take_append_drop]; exact hl8) (fun y hy => by
     rw [List.take_append_drop] at hy
     exact h5 y (hmem y hy)) (fun y hy => (hL y (hmem y (List.mem_of_mem_drop hy))).cells1) hv8 rfl (TrN.cells1 hx0) hne (by omega) hle2
    rw [show pn + (j + L2.length - pn) = j + L2.length from by omega] at h9
    exact h9)
   have Hend := Lib.hid (show ∀ (W9 : World) (r9 : List Value), Blk W9 rb (celL ((L1 ++ L2).take pn ++ (Nd.mk qi qn qr qk qs, ndCells qi qn qr qk (.slice qa qs.length qcap), x0f) :: (L1 ++ L2).drop pn) ++ r9) 56 → (celL ((L1 ++ L2).take pn ++ (Nd.mk qi qn qr qk qs, ndCells qi qn qr qk (.slice qa qs.length qcap), x0f) :: (L1 ++ L2).drop pn) ++ r9).length = cap * 5 → Chg (OneB rb) w7 W9 →
     RetEd B0 gb E N K (opF w0 s2 id (pn : Int) l nx) F w (.returned .nilIface) (W9.setCell ⟨hb, ho + 4, none⟩ (.slice (some ⟨rb, 0, none⟩) (j + L2.length + 1) cap)) from fun W9 r9 hb9 hl9 hc9 => by
    obtain ⟨_, _, _, _, _, _, _, hbF, hFnd⟩ := Hin.out.pt
    rw [List.nodup_cons] at hFnd
    have hm : L1.map (·.1) = l1 ∧ L2.map (·.1) = l2 := by
     have h1 := hLs.trans Hsl.out
     rw [List.map_append, List.map_cons] at h1
     obtain ⟨h2, h3⟩ := List.append_inj h1 (by rw [List.length_map, hL1]; exact hlj.symm)
     exact ⟨h2, (List.cons.inj h3).2⟩
    generalize hX : ((Nd.mk qi qn qr qk qs, ndCells qi qn qr qk (.slice qa qs.length qcap), x0f) : Ch) = X at *
    have hX1 : X.1 = Nd.mk qi qn qr qk qs := by rw [← hX]
    have hperm : ((L1 ++ L2).take pn ++ X :: (L1 ++ L2).drop pn).Perm (L1 ++ X :: L2) := by
     refine (List.perm_middle.trans ?_).trans List.perm_middle.symm
     rw [List.take_append_drop]
    have hs' : ((L1 ++ L2).take pn ++ X :: (L1 ++ L2).drop pn).map (·.1) = movTo id pn hs := by
     have h1 := Hmov.out
     rw [show ((pn : Int)).toNat = pn from rfl] at h1
     rw [h1, List.map_append, List.map_cons, List.map_take, List.map_drop, List.map_append, hm.1, hm.2, hX1]
    have hfp : (footL ((L1 ++ L2).take pn ++ X :: (L1 ++ L2).drop pn)).Perm (footL (L1 ++ X :: L2)) := foot_perm hperm
    have hlen : (movTo id pn hs).length = j + L2.length + 1 := by
     rw [← hs', List.length_map, hperm.length_eq, List.length_append, List.length_cons, hL1]; omega
    have hT : TrL W9 B0 (movTo id pn hs) (.slice (some ⟨rb, 0, none⟩) (j + L2.length + 1) cap) (rb :: footL ((L1 ++ L2).take pn ++ X :: (L1 ++ L2).drop pn)) := by
     refine .inr ⟨rb, cap, _, _, by rw [hlen], by rw [hlen]; omega, hle2, e4, hb9, hl9, ?_, rfl⟩
     have h1 := TrC.ofChunks (w := W9) (B := B0) ((L1 ++ L2).take pn ++ X :: (L1 ++ L2).drop pn) r9 (fun y hy => by
      have hy2 := hperm.mem_iff.1 hy
      refine TrN.keep _ _ _ (hL y hy2) (fun k hk => hc9.block k ?_ ?_)
      ·exact (TrN.lt _ _ _ (hL y hy2) k hk).2
      ·exact fun e => hFnd.1 (by have e : k = rb := e; rw [← e]; exact List.mem_flatMap.2 ⟨y, hy2, hk⟩))
     rw [hs'] at h1
     exact h1
    have hu := PtN.list Hin.out.pt (w1 := W9) (((hc56.tr hc7).mono (fun _ _ e => nbE e)).trans hc9 (fun i e => .inl (by have e : i = rb := e; rw [e]; exact List.mem_cons_self ..))) hT (fun e => hbF (by
      rcases List.mem_cons.1 e with e | e
      ·rw [e]; exact List.mem_cons_self ..
      ·exact List.mem_cons_of_mem _ (hfp.mem_iff.1 e))) (List.nodup_cons.2 ⟨fun e => hFnd.1 (hfp.mem_iff.1 e), hfp.nodup_iff.2 hFnd.2⟩) (fun x hx => .inl (by
      rcases List.mem_cons.1 hx with e | e
      ·rw [e]; exact List.mem_cons_self ..
      ·exact List.mem_cons_of_mem _ (hfp.mem_iff.1 e)))
    obtain ⟨F7, hu7⟩ := Hin.out.upd _ _ _ hu
    have e9 : C (Nd.mk hi' hnm hr' hk' (movTo id pn hs)) = rootNd (grpT id (movTo id pn) l) := Hgrp.out
    rw [e9] at hu7
    have hop : opF w0 s2 id (pn : Int) l nx = .ok (grpT id (movTo id pn) l) nx := by
     unfold opF
     rw [Hfnd.out]
     dsimp only
     rw [if_neg (by rw [Hw0d.out]; decide +kernel), if_neg (by rw [Hw0d.out]; decide +kernel), if_pos Hw0d.out, Hfg.out]
     dsimp only
     exact if_neg (show ¬ ((Nd.mk hi' hnm hr' hk' hs).sub.length : Int) ≤ (pn : Int) from fun h9 => by simp only [Nd.sub] at h9; omega)
    rw [hop]
    exact ⟨hu7.chg, rfl, F7, HLog.out.upd hu7, hu7.sub⟩)
   have hrbl := e5.lt
   have He5 := Lib.hid e5
   have HS := Lib.hid (show ∀ w' : World, Chg (OneB rb) w7 w' → w'.cell? ⟨hb, ho + 4, none⟩ = some (.slice (some ⟨rb, 0, none⟩) hs.length cap) ∧ w'.cell? ⟨w6.heap.size, 0, none⟩ = some (.int .i64 qi) ∧ w'.cell? ⟨w6.heap.size, 1, none⟩ = some (.string qn) ∧ w'.cell? ⟨w6.heap.size, 2, none⟩ = some (.int .i64 qr) ∧ w'.cell? ⟨w6.heap.size, 3, none⟩ = some (.int .i64 qk) ∧ w'.cell? ⟨w6.heap.size, 4, none⟩ = some (.slice qa qs.length qcap) from fun w' hc' => by
    have hn1 : ¬ OneB rb hb := fun e => hbrb e
    have hn2 : ¬ OneB rb w6.heap.size := fun e => by have e : w6.heap.size = rb := e; have := hc56.size; omega
    have hk := hb7.keep hc' hn2
    exact ⟨(hc'.cell (p := ⟨hb, ho + 4, none⟩) (lt_of_cell c7) hn1).trans c7, hk.cell 0, hk.cell 1, hk.cell 2, hk.cell 3, hk.cell 4⟩)
   have Hl5 := Lib.hid e6
   have HFz := Lib.hid (show ∀ w' : World, Chg (OneB rb) w7 w' → w'.frozen? ⟨hb, ho + 4, none⟩ = false from fun w' hc' =>
    ((((hc56.tr hc7).mono (D := OneB rb) (fun _ _ e => nbE e)).trans hc' (fun i e => .inl e)).frozen (p := ⟨hb, ho + 4, none⟩) hhbw (fun e => hbrb e)).trans hfzw)
   have hz07 := (hc56.tr hc7).size
   clear hL e5 h5 e7 e1 hl1 hjq hx0 e6 hLs hL1 hLl hLn
   refine wp_region_n (fun w' => w'.cell? ⟨hb, ho + 4, none⟩ = some (.slice (some ⟨rb, 0, none⟩) hs.length cap) ∧ w'.cell? ⟨w6.heap.size, 0, none⟩ = some (.int .i64 qi) ∧ w'.cell? ⟨w6.heap.size, 1, none⟩ = some (.string qn) ∧ w'.cell? ⟨w6.heap.size, 2, none⟩ = some (.int .i64 qr) ∧ w'.cell? ⟨w6.heap.size, 3, none⟩ = some (.int .i64 qk) ∧ w'.cell? ⟨w6.heap.size, 4, none⟩ = some (.slice qa qs.length qcap)) [15] (by kernel_rfl) ?_ (fun hSh => ?_)
   ·exact ⟨c7, hb7.cell 0, hb7.cell 1, hb7.cell 2, hb7.cell 3, hb7.cell 4⟩
   refine n_from 0 ?_
   intro htk
   iterate 8
    refine n_tB (v := ?_) htk rfl (Or.inl ⟨by rfl, ?_⟩) ?_
    rotate_left 1
    ·(intro w' hSw; (try dsimp only at hSw); go_simp; try with_reducible rfl)
    clear htk
    intro htk
    simp only [Nat.reduceAdd] at htk
    simp only [Act.put, qA, qB, qC, qD, qE, qF]
   clear htk
   refine n_tA (v := ?_) 9 rfl (Or.inl ⟨by rfl, ?_⟩) ?_
   rotate_left 1
   ·(intro w' hSw; (try dsimp only at hSw); go_simp; try with_reducible rfl)
   simp only [Act.put, qA, qB, qC, qD, qE, qF]
   refine n_tA (v := ?_) 10 rfl (Or.inl ⟨by rfl, ?_⟩) ?_
   rotate_left 1
   ·(intro w' hSw; (try dsimp only at hSw); go_simp; try with_reducible rfl)
   simp only [Act.put, qA, qB, qC, qD, qE, qF]
   refine n_fork 8 11 rfl rfl (by kernel_rfl) ?_ ?_
   ·go_wp2_with fail
    refine (Hdel.out w7.drew (Chg.refl NoB w7).drew).mono ?_
    rintro en w8 ⟨rfl, r8, hb8, hl8, hc8⟩
    have hc78 : Chg (OneB rb) w7 w8 := hc8.ofDrew
    go_wp2_with fail
    have hz78 := hc78.size
    refine ⟨fun _ => HS.out w8 hc78, fun hSk => ?_⟩
    replace hSk := hSk (by rfl)
    refine n_step 11 rfl (by kernel_rfl) ?_
    go_wp2_with fail
    generalize hw9 : World.alloc w8 _ = w9
    have hc89 : Chg NoB w8 w9 := by
     rw [← hw9]
     repeat (first | exact Chg.refl _ _ | apply Chg.alloc | apply Chg.drew)
    have hv9 : Blk w9 (w8.heap.size) (ndCells qi qn qr qk (.slice qa qs.length qcap)) 56 := by
     rw [← hw9]
     repeat (first | exact Blk.newAt (by first | rfl | (simp; done) | (simp; omega)) | apply Blk.alloc | apply Blk.drew)
    clear hw9
    refine ⟨fun _ => HS.out w9 (hc78.tr hc89), fun hSk2 => ?_⟩
    replace hSk2 := hSk2 (by rfl)
    refine n_step 12 rfl (by kernel_rfl) ?_
    go_wp2_with fail
    refine (Hins.out w9 (w8.heap.size) r8 (hb8.keep hc89 nbE) (hl8.trans Hl5.out) hv9 (by omega)).mono ?_
    rintro en wA ⟨rfl, r9, hbA, hlA, hcA⟩
    have hc7A : Chg (OneB rb) w7 wA := (hc78.tr hc89).trans hcA (fun _ e => .inl e)
    have hcE := Hend.out wA r9 hbA hlA hc7A
    have HEnd := Lib.hid hcE
    have hfzA := HFz.out wA hc7A
    clear hcE
    go_wp2_with fail
    refine ⟨fun _ => HS.out wA hc7A, fun hSk3 => ?_⟩
    replace hSk3 := hSk3 (by rfl)
    refine n_step 13 rfl (by kernel_rfl) ?_
    go_wp2_with fail
    refine ⟨fun _ => hSk3, fun _ => ?_⟩
    refine n_step 14 rfl (by kernel_rfl) ?_
    go_wp2_with fail
    refine ⟨fun _ => hSk3, fun _ => ?_⟩
    obtain ⟨cA4, _⟩ := hSk3
    refine n_step 15 rfl (by kernel_rfl) ?_
    go_wp2_with fail
    refine ⟨fun h9 => absurd h9 (by decide), fun _ => ?_⟩
    refine n_done (by kernel_rfl) ?_
    go_wp2_with fail
    go_ret
    exact HEnd.out
   ·go_wp2_with fail
    refine ⟨HS.out _ ((Chg.refl (OneB rb) w7).alloc _), ?_⟩
    intro g0 g1 g2 g3 g4 g5
    clear g0 g1 g2 g3 g4 g5
    generalize hw8 : World.drew (World.alloc w7 _) = w8
    have hc78 : Chg NoB w7 w8 := by rw [← hw8]; exact ((Chg.refl _ _).alloc _).drew
    have hv8 : Blk w8 w7.heap.size (ndCells qi qn qr qk (.slice qa qs.length qcap)) 56 := by rw [← hw8]; exact Blk.drew (Blk.newAt rfl)
    clear hw8
    have hz78 := hc78.size
    refine n_step 8 rfl (by kernel_rfl) ?_
    go_wp2_with fail
    refine (Hdel.out w8 hc78).mono ?_
    rintro en w9 ⟨rfl, r8, hb8, hl8, hc89⟩
    have hc79 : Chg (OneB rb) w7 w9 := (hc78.mono (D := OneB rb) (fun _ _ e => nbE e)).trans hc89 (fun i e => .inl e)
    have hv9 := hv8.keep hc89 (fun e => by have e : w7.heap.size = rb := e; omega)
    go_wp2_with fail
    refine ⟨fun _ => HS.out w9 hc79, fun hSk2 => ?_⟩
    replace hSk2 := hSk2 (by rfl)
    refine n_step 12 rfl (by kernel_rfl) ?_
    go_wp2_with fail
    refine (Hins.out w9 (w7.heap.size) r8 hb8 (hl8.trans Hl5.out) hv9 (by omega)).mono ?_
    rintro en wA ⟨rfl, r9, hbA, hlA, hcA⟩
    have hc7A : Chg (OneB rb) w7 wA := hc79.trans hcA (fun _ e => .inl e)
    have hcE := Hend.out wA r9 hbA hlA hc7A
    have HEnd := Lib.hid hcE
    have hfzA := HFz.out wA hc7A
    clear hcE
    go_wp2_with fail
    refine ⟨fun _ => HS.out wA hc7A, fun hSk3 => ?_⟩
    replace hSk3 := hSk3 (by rfl)
    refine n_step 13 rfl (by kernel_rfl) ?_
    go_wp2_with fail
    refine ⟨fun _ => hSk3, fun _ => ?_⟩
    refine n_step 14 rfl (by kernel_rfl) ?_
    go_wp2_with fail
    refine ⟨fun _ => hSk3, fun _ => ?_⟩
    obtain ⟨cA4, _⟩ := hSk3
    refine n_step 15 rfl (by kernel_rfl) ?_
    go_wp2_with fail
    refine ⟨fun h9 => absurd h9 (by decide), fun _ => ?_⟩
    refine n_done (by kernel_rfl) ?_
    go_wp2_with fail
    go_ret
    exact HEnd.out
end Go.Proofs.YtnmhkafpgohefaaGreatDoor
