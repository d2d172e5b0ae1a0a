/-
  evolve's edit: drop, rename, widen, loosen.
-/
import Derived.Test.YtnmhkafpgohefaaGreatDoorEditT
set_option linter.unusedVariables false
set_option maxHeartbeats 20000000
set_option maxRecDepth 100000
set_option linter.unusedSimpArgs false
namespace Go.Proofs.YtnmhkafpgohefaaGreatDoor
open Go.RowKit
theorem edit_drop (B0 gb : Nat) (E : Er → Value) (N K : Value) (line w0 s1 : ByteArray) (hws : wordsB line = [w0, s1]) (l : List Nd) (nx m : Int) (F : List Nat) (w : World) (hG : EvG B0 E N K m w) (hl : line.size ≤ 10000) (hB : B0 ≤ gb) (hL : LogSt w B0 gb l nx F) (hn : (idsL l).Nodup) (hw0d : w0 = bDrop) (id : Int) (hnum : numF s1.data.toList = some id) :
  Calls Tryz.prog 30 #[.pointer (some ⟨gb, 0, none⟩), .string line] w (RetEd B0 gb E N K (opF w0 ⟨#[]⟩ id 0 l nx) F w) := by
 have hk : manyF w0 = some 1 := by rw [hw0d]; decide +kernel
 have hnn : (idsL (rootNd l).sub).Nodup := hn
 have Hw0d := Lib.hid hw0d
 clear hw0d
 have hsp := Tryz.strings_Split line ⟨#[32]⟩ m w (by omega) hG.max (by decide)
 have hwl := words_len line
 have hwsz := words_size line
 have hwc := words_count line
 rw [split_words, ← hwl, hws] at hsp
 rw [hws] at hwsz hwc
 have hw0 := hwsz w0 (List.mem_cons_self ..)
 simp only [List.length_cons, List.length_nil, Nat.zero_add, Nat.reduceAdd] at hsp hwc
 obtain ⟨Tx, vx, hEx⟩ := hG.glo.errs.form .text
 have HEx := Lib.hid hEx
 have Hwsz := Lib.hid hwsz
 have hna : ¬ w0 = bAdd := fun e => by rw [e, many_add] at hk; cases hk
 have hab : (w0.toList == [97, 100, 100]) = false := by rw [bytes_beq]; exact decide_eq_false hna
 clear hwl hws hEx hwsz hna
 go_enter Tryz.func30, Tryz.ntmps30
 go_wp2_with fail
 refine hsp.mono ?_
 rintro en w1 ⟨rfl, hww⟩
 have hc1 : Chg NoB w w1 := by
  rw [← hww.symm]
  repeat (first | exact Chg.refl _ _ | apply Chg.alloc | apply Chg.drew)
 have hb1 : Blk w1 w.heap.size (([w0, s1]).map Value.string) 9 := by rw [hww]; exact Blk.newAt rfl
 clear hsp hww
 have e0 : w1.cell? ⟨w.heap.size, 0, none⟩ = some (.string w0) := hb1.cell 0
 have hz1 := hb1.lt
 have hG1 := hG.keep0 hc1
 have htx := hG1.glo.errs.cell .text
 simp only [Er.g] at htx
 rw [HEx.out] at htx
 go_wp2_with fail
 refine wp_region_n (fun w' => w'.cell? ⟨w.heap.size, 0, none⟩ = some (.string w0)) [] (by kernel_rfl) ?_ (fun hSh => ?_)
 ·exact e0
 refine n_from 1 ?_
 intro htk
 iterate 3
  refine n_tB (v := ?_) htk rfl (Or.inl ⟨by rfl, ?_⟩) ?_
  rotate_left 1
  ·(intro w' hSw; (try dsimp only at hSw); go_simp; try with_reducible rfl)
  clear htk
  intro htk
  simp only [Nat.reduceAdd] at htk
  simp only [Act.put, qA, qB, qC, qD, qE, qF]
 clear htk
 refine n_step 0 rfl (by kernel_rfl) ?_
 go_wp2_with fail
 refine (many_any w1.drew).mono ?_
 rintro en w2 ⟨bm, D, rfl, hSM, hMD, hc2⟩
 have hc02 : Chg NoB w w2 := hc1.tr hc2.ofDrew
 have hb2 := hb1.keep hc2.ofDrew nbE
 have hlM := hSM.lt
 obtain ⟨cM, hlk, hcn⟩ := many_look hSM hMD w0 (by unfold maxLen; omega)
 rw [hk] at hlk hcn
 have Hcn := Lib.hid hcn
 have HMD := Lib.hid hMD
 clear hcn hMD
 go_wp2_with fail
 refine ⟨fun _ => hb2.cell 0, fun hSk => ?_⟩
 replace hSk := hSk (by rfl)
 refine n_step 4 rfl (by kernel_rfl) ?_
 go_wp2_with fail
 refine ⟨fun _ => hb2.cell 0, fun hSk => ?_⟩
 replace hSk := hSk (by rfl)
 refine n_from 5 ?_
 intro htk
 iterate 5
  refine n_tB (v := ?_) htk rfl (Or.inl ⟨by rfl, ?_⟩) ?_
  rotate_left 1
  ·(intro w' hSw; (try dsimp only at hSw); go_simp; try with_reducible rfl)
  clear htk
  intro htk
  simp only [Nat.reduceAdd] at htk
  simp only [Act.put, qA, qB, qC, qD, qE, qF]
 clear htk
 refine n_done (by kernel_rfl) ?_
 clear hSk hSh e0 htx
 have e0 : w2.cell? ⟨w.heap.size, 0, none⟩ = some (.string w0) := hb2.cell 0
 have hG2 := hG.keep0 hc02
 have htx := hG2.glo.errs.cell .text
 simp only [Er.g] at htx
 rw [HEx.out] at htx
 obtain rfl := Hcn.out 1 rfl
 have hs1 : s1.size ≤ 10000 := by have := Hwsz.out s1 (List.mem_cons_of_mem _ (List.mem_cons_self ..)); omega
 have e1 : w2.cell? ⟨w.heap.size, 1, none⟩ = some (.string s1) := hb2.cell 1
 have hz2 := hb2.lt
 have hnumE := number_any s1 w2 hG2.glo (by omega)
 clear hlk
 go_wp2_with fail
 refine hnumE.mono ?_
 rintro en w3 ⟨vn, rfl, hc3, hvn⟩
 clear hnumE
 have Hvn := Lib.hid hvn
 have hc03 := hc02.tr hc3
 have hb3 := hb2.keep hc3 nbE
 have hG3 := hG.keep0 hc03
 clear hvn e0 e1 htx
 have e0 : w3.cell? ⟨w.heap.size, 0, none⟩ = some (.string w0) := hb3.cell 0
 have e1 : w3.cell? ⟨w.heap.size, 1, none⟩ = some (.string s1) := hb3.cell 1
 have hz3 := hb3.lt
 have htx := hG3.glo.errs.cell .text
 simp only [Er.g] at htx
 rw [HEx.out] at htx
 have htxl : 2 < w3.heap.size := lt_of_cell htx
 have hvi := Hvn.out id hnum
 subst vn
 rw [hnum]
 have hq1 : ((w0).toList == [109, 111, 118, 101]) = decide (w0 = bMove) := by rw [bytes_beq]; rfl
 have hq2 : ((w0).toList == [100, 114, 111, 112]) = decide (w0 = bDrop) := by rw [bytes_beq]; rfl
 have hq3 : ((w0).toList == [114, 101, 110, 97, 109, 101]) = decide (w0 = bRename) := by rw [bytes_beq]; rfl
 have hq4 : ((w0).toList == [119, 105, 100, 101, 110]) = decide (w0 = bWiden) := by rw [bytes_beq]; rfl
 have hq5 : ((w0).toList == [108, 111, 111, 115, 101, 110]) = decide (w0 = bLoosen) := by rw [bytes_beq]; rfl
 rw [decide_eq_false (by rw [Hw0d.out]; decide +kernel)] at hq1 hq3 hq4 hq5
 rw [decide_eq_true Hw0d.out] at hq2
 clear hnum
 go_wp2_with fail
 generalize hwi : World.alloc w3 _ = wi
 have hci : Chg NoB w3 wi := by
  rw [← hwi]
  repeat (first | exact Chg.refl _ _ | apply Chg.alloc | apply Chg.drew)
 have hbi : Blk wi (w3.heap.size) ([.int .i64 id]) 3 := by
  rw [← hwi]
  repeat (first | exact Blk.newAt (by first | rfl | (simp; done) | (simp; omega)) | apply Blk.alloc | apply Blk.drew)
 clear hwi
 have hc0i := hc03.tr hci
 have i0 : wi.cell? ⟨w3.heap.size, 0, none⟩ = some (.int .i64 id) := hbi.cell 0
 have lwi := hbi.lt
 refine wp_region_n (fun w' => w'.cell? ⟨w3.heap.size, 0, none⟩ = some (.int .i64 id)) [] (by kernel_rfl) ?_ (fun hSh => ?_)
 ·exact i0
 refine n_from 0 ?_
 intro htk
 iterate 4
  refine n_tB (v := ?_) htk rfl (Or.inl ⟨by rfl, ?_⟩) ?_
  rotate_left 1
  ·(intro w' hSw; (try dsimp only at hSw); go_simp; try with_reducible rfl)
  clear htk
  intro htk
  simp only [Nat.reduceAdd] at htk
  simp only [Act.put, qA, qB, qC, qD, qE, qF]
 clear htk
 refine n_step 4 rfl (by kernel_rfl) ?_
 go_wp2_with fail
 refine (at_any w B0 id _ gb 0 (rootNd l) F wi.drew (Nat.le_refl _) hL.pt hc0i.drew).mono ?_
 rintro en w5 ⟨hc5, (⟨hno, rfl⟩ | ⟨hb, ho, h, Fh, C, rb, cap, j, q, rfl, hin, hq, hqid, hcell⟩)⟩
 ·have hc05 : Chg NoB w w5 := hc0i.tr hc5.ofDrew
  have hbi5 := hbi.keep hc5.ofDrew nbE
  have hb5 := (hb3.keep hci nbE).keep hc5.ofDrew nbE
  have hG5 := hG.keep0 hc05
  go_wp2_with fail
  refine ⟨fun _ => hbi5.cell 0, fun hSk => ?_⟩
  replace hSk := hSk (by rfl)
  refine n_from 5 ?_
  intro htk
  iterate 5
   refine n_tB (v := ?_) htk rfl (Or.inl ⟨by rfl, ?_⟩) ?_
   rotate_left 1
   ·(intro w' hSw; (try dsimp only at hSw); go_simp; try with_reducible rfl)
   clear htk
   intro htk
   simp only [Nat.reduceAdd] at htk
   simp only [Act.put, qA, qB, qC, qD, qE, qF]
  clear htk
  refine n_done (by kernel_rfl) ?_
  clear hSk hSh i0 e0 e1 htx
  have i0 : w5.cell? ⟨w3.heap.size, 0, none⟩ = some (.int .i64 id) := hbi5.cell 0
  have e0 : w5.cell? ⟨w.heap.size, 0, none⟩ = some (.string w0) := hb5.cell 0
  have e1 : w5.cell? ⟨w.heap.size, 1, none⟩ = some (.string s1) := hb5.cell 1
  have li5 := hbi5.lt
  have lb5 := hb5.lt
  have gn := hG5.non
  obtain ⟨Tn, vN, hN⟩ := hG.nform
  rw [hN] at gn
  have HN := Lib.hid hN
  clear hN
  go_wp2_with fail
  go_ret
  have hres : fndL id l = none := fndL_no id l hno
  unfold opF
  rw [hres]
  exact ⟨hc05.mono (fun _ _ e => nbE e), congrArg Ending.returned HN.out.symm⟩
 ·have hc05 : Chg NoB w w5 := hc0i.tr hc5.ofDrew
  have hbi5 := hbi.keep hc5.ofDrew nbE
  have hb5 := (hb3.keep hci nbE).keep hc5.ofDrew nbE
  have hG5 := hG.keep0 hc05
  go_wp2_with fail
  refine ⟨fun _ => hbi5.cell 0, fun hSk => ?_⟩
  replace hSk := hSk (by rfl)
  refine n_from 5 ?_
  intro htk
  iterate 5
   refine n_tB (v := ?_) htk rfl (Or.inl ⟨by rfl, ?_⟩) ?_
   rotate_left 1
   ·(intro w' hSw; (try dsimp only at hSw); go_simp; try with_reducible rfl)
   clear htk
   intro htk
   simp only [Nat.reduceAdd] at htk
   simp only [Act.put, qA, qB, qC, qD, qE, qF]
  clear htk
  refine n_done (by kernel_rfl) ?_
  clear hSk hSh i0 e0 e1 htx
  have i0 : w5.cell? ⟨w3.heap.size, 0, none⟩ = some (.int .i64 id) := hbi5.cell 0
  have e0 : w5.cell? ⟨w.heap.size, 0, none⟩ = some (.string w0) := hb5.cell 0
  have e1 : w5.cell? ⟨w.heap.size, 1, none⟩ = some (.string s1) := hb5.cell 1
  have li5 := hbi5.lt
  have lb5 := hb5.lt
  have hL5 := hL.keep hc05 nbE (fun _ _ => nbE)
  have hfnd : fndL id l = some q := holds_fnd hin.path hq hqid hnn
  have Hfnd := Lib.hid hfnd
  clear hfnd hin hq hqid hcell
  go_wp2_with fail
  refine wp_region_n (fun w' => w'.cell? ⟨w3.heap.size, 0, none⟩ = some (.int .i64 id)) [] (by kernel_rfl) ?_ (fun hSh => ?_)
  ·exact i0
  refine n_from 0 ?_
  intro htk
  iterate 4
   refine n_tB (v := ?_) htk rfl (Or.inl ⟨by rfl, ?_⟩) ?_
   rotate_left 1
   ·(intro w' hSw; (try dsimp only at hSw); go_simp; try with_reducible rfl)
   clear htk
   intro htk
   simp only [Nat.reduceAdd] at htk
   simp only [Act.put, qA, qB, qC, qD, qE, qF]
  clear htk
  refine n_step 4 rfl (by kernel_rfl) ?_
  go_wp2_with fail
  have hd : Chg NoB w5 w5.drew := (Chg.refl _ _).drew
  refine (drop_any B0 id _ gb 0 (rootNd l) F w5.drew (Nat.le_refl _) (hL5.pt.keep0 hd)).mono ?_
  rintro en w6 ⟨rfl, F6, hu⟩
  have hu5 := hu.ahead hd hL5.pt nbE (fun _ _ => nbE) (fun _ e => nbE e)
  have hu0 : Upd w B0 gb 0 (rootNd l) F w6 (rootNd ((dropL id l).filter fun x => !delB id x)) F6 := hu5.ahead hc05 hL.pt nbE (fun _ _ => nbE) (fun _ e => nbE e)
  have hgl := hL.pt.lt.1
  have Hlt := Lib.hid hL.pt.lt.2
  have i6 : w6.cell? ⟨w3.heap.size, 0, none⟩ = some (.int .i64 id) := (hu5.chg.cell (p := ⟨w3.heap.size, 0, none⟩) li5 (fun e => by
   have h3 := hc03.size
   rcases e with e | e
   ·have e : w3.heap.size = gb := e; omega
   ·have h9 := (Hlt.out _ e).2; have h9 : w3.heap.size < w.heap.size := h9; omega)).trans i0
  have Hu0 := Lib.hid hu0
  clear hu hu5 hu0
  go_wp2_with fail
  refine ⟨fun _ => i6, fun hSk => ?_⟩
  replace hSk := hSk (by rfl)
  refine n_done (by kernel_rfl) ?_
  go_wp2_with fail
  go_ret
  unfold opF
  rw [Hfnd.out]
  dsimp only
  rw [if_pos Hw0d.out]
  have hu0 := Hu0.out
  exact ⟨hu0.chg, rfl, F6, hL.upd hu0, hu0.sub⟩
theorem edit_rename (B0 gb : Nat) (E : Er → Value) (N K : Value) (line w0 s1 s2 : ByteArray) (hws : wordsB line = [w0, s1, s2]) (l : List Nd) (nx m : Int) (F : List Nat) (w : World) (hG : EvG B0 E N K m w) (hl : line.size ≤ 10000) (hB : B0 ≤ gb) (hL : LogSt w B0 gb l nx F) (hn : (idsL l).Nodup) (hw0d : w0 = bRename) (id : Int) (hnum : numF s1.data.toList = some id) :
  Calls Tryz.prog 30 #[.pointer (some ⟨gb, 0, none⟩), .string line] w (RetEd B0 gb E N K (opF w0 s2 id 0 l nx) F w) := by
 have hk : manyF w0 = some 2 := by rw [hw0d]; decide +kernel
 have hnn : (idsL (rootNd l).sub).Nodup := hn
 have Hw0d := Lib.hid hw0d
 clear hw0d
 have hsp := Tryz.strings_Split line ⟨#[32]⟩ m w (by omega) hG.max (by decide)
 have hwl := words_len line
 have hwsz := words_size line
 have hwc := words_count line
 rw [split_words, ← hwl, hws] at hsp
 rw [hws] at hwsz hwc
 have hw0 := hwsz w0 (List.mem_cons_self ..)
 simp only [List.length_cons, List.length_nil, Nat.zero_add, Nat.reduceAdd] at hsp hwc
 obtain ⟨Tx, vx, hEx⟩ := hG.glo.errs.form .text
 have HEx := Lib.hid hEx
 have Hwsz := Lib.hid hwsz
 have hna : ¬ w0 = bAdd := fun e => by rw [e, many_add] at hk; cases hk
 have hab : (w0.toList == [97, 100, 100]) = false := by rw [bytes_beq]; exact decide_eq_false hna
 clear hwl hws hEx hwsz hna
 go_enter Tryz.func30, Tryz.ntmps30
 go_wp2_with fail
 refine hsp.mono ?_
 rintro en w1 ⟨rfl, hww⟩
 have hc1 : Chg NoB w w1 := by
  rw [← hww.symm]
  repeat (first | exact Chg.refl _ _ | apply Chg.alloc | apply Chg.drew)
 have hb1 : Blk w1 w.heap.size (([w0, s1, s2]).map Value.string) 9 := by rw [hww]; exact Blk.newAt rfl
 clear hsp hww
 have e0 : w1.cell? ⟨w.heap.size, 0, none⟩ = some (.string w0) := hb1.cell 0
 have hz1 := hb1.lt
 have hG1 := hG.keep0 hc1
 have htx := hG1.glo.errs.cell .text
 simp only [Er.g] at htx
 rw [HEx.out] at htx
 go_wp2_with fail
 refine wp_region_n (fun w' => w'.cell? ⟨w.heap.size, 0, none⟩ = some (.string w0)) [] (by kernel_rfl) ?_ (fun hSh => ?_)
 ·exact e0
 refine n_from 1 ?_
 intro htk
 iterate 3
  refine n_tB (v := ?_) htk rfl (Or.inl ⟨by rfl, ?_⟩) ?_
  rotate_left 1
  ·(intro w' hSw; (try dsimp only at hSw); go_simp; try with_reducible rfl)
  clear htk
  intro htk
  simp only [Nat.reduceAdd] at htk
  simp only [Act.put, qA, qB, qC, qD, qE, qF]
 clear htk
 refine n_step 0 rfl (by kernel_rfl) ?_
 go_wp2_with fail
 refine (many_any w1.drew).mono ?_
 rintro en w2 ⟨bm, D, rfl, hSM, hMD, hc2⟩
 have hc02 : Chg NoB w w2 := hc1.tr hc2.ofDrew
 have hb2 := hb1.keep hc2.ofDrew nbE
 have hlM := hSM.lt
 obtain ⟨cM, hlk, hcn⟩ := many_look hSM hMD w0 (by unfold maxLen; omega)
 rw [hk] at hlk hcn
 have Hcn := Lib.hid hcn
 have HMD := Lib.hid hMD
 clear hcn hMD
 go_wp2_with fail
 refine ⟨fun _ => hb2.cell 0, fun hSk => ?_⟩
 replace hSk := hSk (by rfl)
 refine n_step 4 rfl (by kernel_rfl) ?_
 go_wp2_with fail
 refine ⟨fun _ => hb2.cell 0, fun hSk => ?_⟩
 replace hSk := hSk (by rfl)
 refine n_from 5 ?_
 intro htk
 iterate 5
  refine n_tB (v := ?_) htk rfl (Or.inl ⟨by rfl, ?_⟩) ?_
  rotate_left 1
  ·(intro w' hSw; (try dsimp only at hSw); go_simp; try with_reducible rfl)
  clear htk
  intro htk
  simp only [Nat.reduceAdd] at htk
  simp only [Act.put, qA, qB, qC, qD, qE, qF]
 clear htk
 refine n_done (by kernel_rfl) ?_
 clear hSk hSh e0 htx
 have e0 : w2.cell? ⟨w.heap.size, 0, none⟩ = some (.string w0) := hb2.cell 0
 have hG2 := hG.keep0 hc02
 have htx := hG2.glo.errs.cell .text
 simp only [Er.g] at htx
 rw [HEx.out] at htx
 obtain rfl := Hcn.out 2 rfl
 have hs1 : s1.size ≤ 10000 := by have := Hwsz.out s1 (List.mem_cons_of_mem _ (List.mem_cons_self ..)); omega
 have e1 : w2.cell? ⟨w.heap.size, 1, none⟩ = some (.string s1) := hb2.cell 1
 have hz2 := hb2.lt
 have hnumE := number_any s1 w2 hG2.glo (by omega)
 clear hlk
 go_wp2_with fail
 refine hnumE.mono ?_
 rintro en w3 ⟨vn, rfl, hc3, hvn⟩
 clear hnumE
 have Hvn := Lib.hid hvn
 have hc03 := hc02.tr hc3
 have hb3 := hb2.keep hc3 nbE
 have hG3 := hG.keep0 hc03
 clear hvn e0 e1 htx
 have e0 : w3.cell? ⟨w.heap.size, 0, none⟩ = some (.string w0) := hb3.cell 0
 have e1 : w3.cell? ⟨w.heap.size, 1, none⟩ = some (.string s1) := hb3.cell 1
 have hz3 := hb3.lt
 have htx := hG3.glo.errs.cell .text
 simp only [Er.g] at htx
 rw [HEx.out] at htx
 have htxl : 2 < w3.heap.size := lt_of_cell htx
 have hvi := Hvn.out id hnum
 subst vn
 rw [hnum]
 have hq1 : ((w0).toList == [109, 111, 118, 101]) = decide (w0 = bMove) := by rw [bytes_beq]; rfl
 have hq2 : ((w0).toList == [100, 114, 111, 112]) = decide (w0 = bDrop) := by rw [bytes_beq]; rfl
 have hq3 : ((w0).toList == [114, 101, 110, 97, 109, 101]) = decide (w0 = bRename) := by rw [bytes_beq]; rfl
 have hq4 : ((w0).toList == [119, 105, 100, 101, 110]) = decide (w0 = bWiden) := by rw [bytes_beq]; rfl
 have hq5 : ((w0).toList == [108, 111, 111, 115, 101, 110]) = decide (w0 = bLoosen) := by rw [bytes_beq]; rfl
 rw [decide_eq_false (by rw [Hw0d.out]; decide +kernel)] at hq1 hq2 hq4 hq5
 rw [decide_eq_true Hw0d.out] at hq3
 clear hnum
 have hs2 : s2.size ≤ 10000 := by have := Hwsz.out s2 (List.mem_cons_of_mem _ (List.mem_cons_of_mem _ (List.mem_cons_self ..))); omega
 go_wp2_with fail
 generalize hwi : World.alloc w3 _ = wi
 have hci : Chg NoB w3 wi := by
  rw [← hwi]
  repeat (first | exact Chg.refl _ _ | apply Chg.alloc | apply Chg.drew)
 have hbi : Blk wi (w3.heap.size) ([.int .i64 id]) 3 := by
  rw [← hwi]
  repeat (first | exact Blk.newAt (by first | rfl | (simp; done) | (simp; omega)) | apply Blk.alloc | apply Blk.drew)
 clear hwi
 have hc0i := hc03.tr hci
 have i0 : wi.cell? ⟨w3.heap.size, 0, none⟩ = some (.int .i64 id) := hbi.cell 0
 have lwi := hbi.lt
 refine wp_region_n (fun w' => w'.cell? ⟨w3.heap.size, 0, none⟩ = some (.int .i64 id)) [] (by kernel_rfl) ?_ (fun hSh => ?_)
 ·exact i0
 refine n_from 0 ?_
 intro htk
 iterate 4
  refine n_tB (v := ?_) htk rfl (Or.inl ⟨by rfl, ?_⟩) ?_
  rotate_left 1
  ·(intro w' hSw; (try dsimp only at hSw); go_simp; try with_reducible rfl)
  clear htk
  intro htk
  simp only [Nat.reduceAdd] at htk
  simp only [Act.put, qA, qB, qC, qD, qE, qF]
 clear htk
 refine n_step 4 rfl (by kernel_rfl) ?_
 go_wp2_with fail
 refine (at_any w B0 id _ gb 0 (rootNd l) F wi.drew (Nat.le_refl _) hL.pt hc0i.drew).mono ?_
 rintro en w5 ⟨hc5, (⟨hno, rfl⟩ | ⟨hb, ho, h, Fh, C, rb, cap, j, q, rfl, hin, hq, hqid, hcell⟩)⟩
 ·have hc05 : Chg NoB w w5 := hc0i.tr hc5.ofDrew
  have hbi5 := hbi.keep hc5.ofDrew nbE
  have hb5 := (hb3.keep hci nbE).keep hc5.ofDrew nbE
  have hG5 := hG.keep0 hc05
  go_wp2_with fail
  refine ⟨fun _ => hbi5.cell 0, fun hSk => ?_⟩
  replace hSk := hSk (by rfl)
  refine n_from 5 ?_
  intro htk
  iterate 5
   refine n_tB (v := ?_) htk rfl (Or.inl ⟨by rfl, ?_⟩) ?_
   rotate_left 1
   ·(intro w' hSw; (try dsimp only at hSw); go_simp; try with_reducible rfl)
   clear htk
   intro htk
   simp only [Nat.reduceAdd] at htk
   simp only [Act.put, qA, qB, qC, qD, qE, qF]
  clear htk
  refine n_done (by kernel_rfl) ?_
  clear hSk hSh i0 e0 e1 htx
  have i0 : w5.cell? ⟨w3.heap.size, 0, none⟩ = some (.int .i64 id) := hbi5.cell 0
  have e0 : w5.cell? ⟨w.heap.size, 0, none⟩ = some (.string w0) := hb5.cell 0
  have e1 : w5.cell? ⟨w.heap.size, 1, none⟩ = some (.string s1) := hb5.cell 1
  have li5 := hbi5.lt
  have lb5 := hb5.lt
  have gn := hG5.non
  obtain ⟨Tn, vN, hN⟩ := hG.nform
  rw [hN] at gn
  have HN := Lib.hid hN
  clear hN
  go_wp2_with fail
  go_ret
  have hres : fndL id l = none := fndL_no id l hno
  unfold opF
  rw [hres]
  exact ⟨hc05.mono (fun _ _ e => nbE e), congrArg Ending.returned HN.out.symm⟩
 ·have hc05 : Chg NoB w w5 := hc0i.tr hc5.ofDrew
  have hbi5 := hbi.keep hc5.ofDrew nbE
  have hb5 := (hb3.keep hci nbE).keep hc5.ofDrew nbE
  have hG5 := hG.keep0 hc05
  go_wp2_with fail
  refine ⟨fun _ => hbi5.cell 0, fun hSk => ?_⟩
  replace hSk := hSk (by rfl)
  refine n_from 5 ?_
  intro htk
  iterate 5
   refine n_tB (v := ?_) htk rfl (Or.inl ⟨by rfl, ?_⟩) ?_
   rotate_left 1
   ·(intro w' hSw; (try dsimp only at hSw); go_simp; try with_reducible rfl)
   clear htk
   intro htk
   simp only [Nat.reduceAdd] at htk
   simp only [Act.put, qA, qB, qC, qD, qE, qF]
  clear htk
  refine n_done (by kernel_rfl) ?_
  clear hSk hSh i0 e0 e1 htx
  have i0 : w5.cell? ⟨w3.heap.size, 0, none⟩ = some (.int .i64 id) := hbi5.cell 0
  have e0 : w5.cell? ⟨w.heap.size, 0, none⟩ = some (.string w0) := hb5.cell 0
  have e1 : w5.cell? ⟨w.heap.size, 1, none⟩ = some (.string s1) := hb5.cell 1
  have li5 := hbi5.lt
  have lb5 := hb5.lt
  have hL5 := hL.keep hc05 nbE (fun _ _ => nbE)
  have hfnd := holds_fnd hin.path hq hqid hnn
  have hgrp := (holds_grp hin.path hq hqid hnn).2
  have hsid := fun f : Nd → Nd => setId_set (f := f) hq hqid (holds_nodup hin.path hnn)
  obtain ⟨hi', hnm, hr', hk', hs⟩ := h
  simp only [Nd.sub] at hq hcell hsid
  obtain ⟨rb', cap', Fc, z4, _, _, hrbF, hFcF, hpc, hup⟩ := hin.pt.child hq
  obtain ⟨he1, -, -⟩ := Value.slice.inj (Option.some.inj (hcell.symm.trans z4))
  obtain rfl : rb = rb' := by simpa using he1
  obtain ⟨qi, qn, qr, qk, qs⟩ := q
  have Hclose := Lib.hid (show ∀ (f : Nd → Nd) wE F9, Upd w B0 rb (j * 5) (.mk qi qn qr qk qs) Fc wE (f (.mk qi qn qr qk qs)) F9 → ∃ F7, Upd w B0 gb 0 (rootNd l) F wE (rootNd (grpT id (setId id f) l)) F7 from fun f wE F9 hu => by
   obtain ⟨F8, hu8⟩ := hup wE _ F9 hu
   obtain ⟨F7, hu7⟩ := hin.upd wE _ F8 hu8
   have e9 : C (.mk hi' hnm hr' hk' (hs.set j (f (.mk qi qn qr qk qs)))) = rootNd (grpT id (setId id f) l) := by
    rw [← hsid f]
    exact hgrp (setId id f)
   rw [e9] at hu7
   exact ⟨F7, hu7⟩)
  have hpc5 := hpc.keep0 hc05
  obtain ⟨vq5, _, n0, n1, n2, n3, n4, nfz⟩ := hpc5.form
  have Hfnd := Lib.hid (show fndL id l = some (.mk qi qn qr qk qs) from hfnd)
  clear hfnd hgrp hsid hup hin hq hqid hcell z4 hrbF hFcF
  have e2 : w5.cell? ⟨w.heap.size, 2, none⟩ = some (.string s2) := hb5.cell 2
  have Hpc := Lib.hid hpc
  have Hpc5 := Lib.hid hpc5
  clear nfz hpc hpc5 n0 n1 n2 n3 n4
  go_wp2_with fail
  refine (isNameE_any s2 w5 (by omega)).mono ?_
  rintro en w6 ⟨rfl, hc6⟩
  have hc06 := hc05.tr hc6
  have hpc6 := Hpc5.out.keep0 hc6
  have hG6 := hG5.keep0 hc6
  have e2 : w6.cell? ⟨w.heap.size, 2, none⟩ = some (.string s2) := (hb5.keep hc6 nbE).cell 2
  have fz : w6.frozen? ⟨rb, j * 5 + 1, none⟩ = false := by obtain ⟨_, _, _, _, _, _, _, f9⟩ := hpc6.form; exact f9 _
  have n1 : w6.cell? ⟨rb, j * 5 + 1, none⟩ = some (.string qn) := by obtain ⟨_, _, _, f9, _⟩ := hpc6.form; exact f9
  have hlc := lt_of_cell n1
  have hl6 := (hb5.keep hc6 nbE).lt
  have Hpc6 := Lib.hid hpc6
  clear hpc6
  by_cases hnm2 : isNameB s2 = true
  ·have hnmb := hnm2
   go_wp2_with fail
   go_ret
   have hu := Hpc6.out.field 1 (by decide) (.string s2) qi s2 qr qk (fun v => rfl)
   obtain ⟨F7, hu7⟩ := Hclose.out (renTo s2) _ Fc (hu.ahead hc06 Hpc.out nbE (fun _ _ => nbE) (fun _ e => nbE e))
   unfold opF
   rw [Hfnd.out]
   dsimp only
   rw [if_neg (by rw [Hw0d.out]; decide +kernel), if_pos Hw0d.out, if_pos hnmb]
   exact ⟨hu7.chg, rfl, F7, hL.upd hu7, hu7.sub⟩
  ·have hnmb : isNameB s2 = false := by simpa using hnm2
   have gn := hG6.glo.errs.cell .name
   simp only [Er.g] at gn
   obtain ⟨Tn, vN, hN⟩ := hG.glo.errs.form .name
   rw [hN] at gn
   have HN := Lib.hid hN
   clear hN hnm2
   go_wp2_with fail
   go_ret
   unfold opF
   rw [Hfnd.out]
   dsimp only
   rw [if_neg (by rw [Hw0d.out]; decide +kernel), if_pos Hw0d.out, hnmb]
   exact ⟨hc06.mono (fun _ _ e => nbE e), congrArg Ending.returned HN.out.symm⟩
theorem edit_widen (B0 gb : Nat) (E : Er → Value) (N K : Value) (line w0 s1 : ByteArray) (hws : wordsB line = [w0, s1]) (l : List Nd) (nx m : Int) (F : List Nat) (w : World) (hG : EvG B0 E N K m w) (hl : line.size ≤ 10000) (hB : B0 ≤ gb) (hL : LogSt w B0 gb l nx F) (hn : (idsL l).Nodup) (hw0d : w0 = bWiden) (id : Int) (hnum : numF s1.data.toList = some id) :
  Calls Tryz.prog 30 #[.pointer (some ⟨gb, 0, none⟩), .string line] w (RetEd B0 gb E N K (opF w0 ⟨#[]⟩ id 0 l nx) F w) := by
 have hk : manyF w0 = some 1 := by rw [hw0d]; decide +kernel
 have hnn : (idsL (rootNd l).sub).Nodup := hn
 have Hw0d := Lib.hid hw0d
 clear hw0d
 have hsp := Tryz.strings_Split line ⟨#[32]⟩ m w (by omega) hG.max (by decide)
 have hwl := words_len line
 have hwsz := words_size line
 have hwc := words_count line
 rw [split_words, ← hwl, hws] at hsp
 rw [hws] at hwsz hwc
 have hw0 := hwsz w0 (List.mem_cons_self ..)
 simp only [List.length_cons, List.length_nil, Nat.zero_add, Nat.reduceAdd] at hsp hwc
 obtain ⟨Tx, vx, hEx⟩ := hG.glo.errs.form .text
 have HEx := Lib.hid hEx
 have Hwsz := Lib.hid hwsz
 have hna : ¬ w0 = bAdd := fun e => by rw [e, many_add] at hk; cases hk
 have hab : (w0.toList == [97, 100, 100]) = false := by rw [bytes_beq]; exact decide_eq_false hna
 clear hwl hws hEx hwsz hna
 go_enter Tryz.func30, Tryz.ntmps30
 go_wp2_with fail
 refine hsp.mono ?_
 rintro en w1 ⟨rfl, hww⟩
 have hc1 : Chg NoB w w1 := by
  rw [← hww.symm]
  repeat (first | exact Chg.refl _ _ | apply Chg.alloc | apply Chg.drew)
 have hb1 : Blk w1 w.heap.size (([w0, s1]).map Value.string) 9 := by rw [hww]; exact Blk.newAt rfl
 clear hsp hww
 have e0 : w1.cell? ⟨w.heap.size, 0, none⟩ = some (.string w0) := hb1.cell 0
 have hz1 := hb1.lt
 have hG1 := hG.keep0 hc1
 have htx := hG1.glo.errs.cell .text
 simp only [Er.g] at htx
 rw [HEx.out] at htx
 go_wp2_with fail
 refine wp_region_n (fun w' => w'.cell? ⟨w.heap.size, 0, none⟩ = some (.string w0)) [] (by kernel_rfl) ?_ (fun hSh => ?_)
 ·exact e0
 refine n_from 1 ?_
 intro htk
 iterate 3
  refine n_tB (v := ?_) htk rfl (Or.inl ⟨by rfl, ?_⟩) ?_
  rotate_left 1
  ·(intro w' hSw; (try dsimp only at hSw); go_simp; try with_reducible rfl)
  clear htk
  intro htk
  simp only [Nat.reduceAdd] at htk
  simp only [Act.put, qA, qB, qC, qD, qE, qF]
 clear htk
 refine n_step 0 rfl (by kernel_rfl) ?_
 go_wp2_with fail
 refine (many_any w1.drew).mono ?_
 rintro en w2 ⟨bm, D, rfl, hSM, hMD, hc2⟩
 have hc02 : Chg NoB w w2 := hc1.tr hc2.ofDrew
 have hb2 := hb1.keep hc2.ofDrew nbE
 have hlM := hSM.lt
 obtain ⟨cM, hlk, hcn⟩ := many_look hSM hMD w0 (by unfold maxLen; omega)
 rw [hk] at hlk hcn
 have Hcn := Lib.hid hcn
 have HMD := Lib.hid hMD
 clear hcn hMD
 go_wp2_with fail
 refine ⟨fun _ => hb2.cell 0, fun hSk => ?_⟩
 replace hSk := hSk (by rfl)
 refine n_step 4 rfl (by kernel_rfl) ?_
 go_wp2_with fail
 refine ⟨fun _ => hb2.cell 0, fun hSk => ?_⟩
 replace hSk := hSk (by rfl)
 refine n_from 5 ?_
 intro htk
 iterate 5
  refine n_tB (v := ?_) htk rfl (Or.inl ⟨by rfl, ?_⟩) ?_
  rotate_left 1
  ·(intro w' hSw; (try dsimp only at hSw); go_simp; try with_reducible rfl)
  clear htk
  intro htk
  simp only [Nat.reduceAdd] at htk
  simp only [Act.put, qA, qB, qC, qD, qE, qF]
 clear htk
 refine n_done (by kernel_rfl) ?_
 clear hSk hSh e0 htx
 have e0 : w2.cell? ⟨w.heap.size, 0, none⟩ = some (.string w0) := hb2.cell 0
 have hG2 := hG.keep0 hc02
 have htx := hG2.glo.errs.cell .text
 simp only [Er.g] at htx
 rw [HEx.out] at htx
 obtain rfl := Hcn.out 1 rfl
 have hs1 : s1.size ≤ 10000 := by have := Hwsz.out s1 (List.mem_cons_of_mem _ (List.mem_cons_self ..)); omega
 have e1 : w2.cell? ⟨w.heap.size, 1, none⟩ = some (.string s1) := hb2.cell 1
 have hz2 := hb2.lt
 have hnumE := number_any s1 w2 hG2.glo (by omega)
 clear hlk
 go_wp2_with fail
 refine hnumE.mono ?_
 rintro en w3 ⟨vn, rfl, hc3, hvn⟩
 clear hnumE
 have Hvn := Lib.hid hvn
 have hc03 := hc02.tr hc3
 have hb3 := hb2.keep hc3 nbE
 have hG3 := hG.keep0 hc03
 clear hvn e0 e1 htx
 have e0 : w3.cell? ⟨w.heap.size, 0, none⟩ = some (.string w0) := hb3.cell 0
 have e1 : w3.cell? ⟨w.heap.size, 1, none⟩ = some (.string s1) := hb3.cell 1
 have hz3 := hb3.lt
 have htx := hG3.glo.errs.cell .text
 simp only [Er.g] at htx
 rw [HEx.out] at htx
 have htxl : 2 < w3.heap.size := lt_of_cell htx
 have hvi := Hvn.out id hnum
 subst vn
 rw [hnum]
 have hq1 : ((w0).toList == [109, 111, 118, 101]) = decide (w0 = bMove) := by rw [bytes_beq]; rfl
 have hq2 : ((w0).toList == [100, 114, 111, 112]) = decide (w0 = bDrop) := by rw [bytes_beq]; rfl
 have hq3 : ((w0).toList == [114, 101, 110, 97, 109, 101]) = decide (w0 = bRename) := by rw [bytes_beq]; rfl
 have hq4 : ((w0).toList == [119, 105, 100, 101, 110]) = decide (w0 = bWiden) := by rw [bytes_beq]; rfl
 have hq5 : ((w0).toList == [108, 111, 111, 115, 101, 110]) = decide (w0 = bLoosen) := by rw [bytes_beq]; rfl
 rw [decide_eq_false (by rw [Hw0d.out]; decide +kernel)] at hq1 hq2 hq3 hq5
 rw [decide_eq_true Hw0d.out] at hq4
 clear hnum
 go_wp2_with fail
 generalize hwi : World.alloc w3 _ = wi
 have hci : Chg NoB w3 wi := by
  rw [← hwi]
  repeat (first | exact Chg.refl _ _ | apply Chg.alloc | apply Chg.drew)
 have hbi : Blk wi (w3.heap.size) ([.int .i64 id]) 3 := by
  rw [← hwi]
  repeat (first | exact Blk.newAt (by first | rfl | (simp; done) | (simp; omega)) | apply Blk.alloc | apply Blk.drew)
 clear hwi
 have hc0i := hc03.tr hci
 have i0 : wi.cell? ⟨w3.heap.size, 0, none⟩ = some (.int .i64 id) := hbi.cell 0
 have lwi := hbi.lt
 refine wp_region_n (fun w' => w'.cell? ⟨w3.heap.size, 0, none⟩ = some (.int .i64 id)) [] (by kernel_rfl) ?_ (fun hSh => ?_)
 ·exact i0
 refine n_from 0 ?_
 intro htk
 iterate 4
  refine n_tB (v := ?_) htk rfl (Or.inl ⟨by rfl, ?_⟩) ?_
  rotate_left 1
  ·(intro w' hSw; (try dsimp only at hSw); go_simp; try with_reducible rfl)
  clear htk
  intro htk
  simp only [Nat.reduceAdd] at htk
  simp only [Act.put, qA, qB, qC, qD, qE, qF]
 clear htk
 refine n_step 4 rfl (by kernel_rfl) ?_
 go_wp2_with fail
 refine (at_any w B0 id _ gb 0 (rootNd l) F wi.drew (Nat.le_refl _) hL.pt hc0i.drew).mono ?_
 rintro en w5 ⟨hc5, (⟨hno, rfl⟩ | ⟨hb, ho, h, Fh, C, rb, cap, j, q, rfl, hin, hq, hqid, hcell⟩)⟩
 ·have hc05 : Chg NoB w w5 := hc0i.tr hc5.ofDrew
  have hbi5 := hbi.keep hc5.ofDrew nbE
  have hb5 := (hb3.keep hci nbE).keep hc5.ofDrew nbE
  have hG5 := hG.keep0 hc05
  go_wp2_with fail
  refine ⟨fun _ => hbi5.cell 0, fun hSk => ?_⟩
  replace hSk := hSk (by rfl)
  refine n_from 5 ?_
  intro htk
  iterate 5
   refine n_tB (v := ?_) htk rfl (Or.inl ⟨by rfl, ?_⟩) ?_
   rotate_left 1
   ·(intro w' hSw; (try dsimp only at hSw); go_simp; try with_reducible rfl)
   clear htk
   intro htk
   simp only [Nat.reduceAdd] at htk
   simp only [Act.put, qA, qB, qC, qD, qE, qF]
  clear htk
  refine n_done (by kernel_rfl) ?_
  clear hSk hSh i0 e0 e1 htx
  have i0 : w5.cell? ⟨w3.heap.size, 0, none⟩ = some (.int .i64 id) := hbi5.cell 0
  have e0 : w5.cell? ⟨w.heap.size, 0, none⟩ = some (.string w0) := hb5.cell 0
  have e1 : w5.cell? ⟨w.heap.size, 1, none⟩ = some (.string s1) := hb5.cell 1
  have li5 := hbi5.lt
  have lb5 := hb5.lt
  have gn := hG5.non
  obtain ⟨Tn, vN, hN⟩ := hG.nform
  rw [hN] at gn
  have HN := Lib.hid hN
  clear hN
  go_wp2_with fail
  go_ret
  have hres : fndL id l = none := fndL_no id l hno
  unfold opF
  rw [hres]
  exact ⟨hc05.mono (fun _ _ e => nbE e), congrArg Ending.returned HN.out.symm⟩
 ·have hc05 : Chg NoB w w5 := hc0i.tr hc5.ofDrew
  have hbi5 := hbi.keep hc5.ofDrew nbE
  have hb5 := (hb3.keep hci nbE).keep hc5.ofDrew nbE
  have hG5 := hG.keep0 hc05
  go_wp2_with fail
  refine ⟨fun _ => hbi5.cell 0, fun hSk => ?_⟩
  replace hSk := hSk (by rfl)
  refine n_from 5 ?_
  intro htk
  iterate 5
   refine n_tB (v := ?_) htk rfl (Or.inl ⟨by rfl, ?_⟩) ?_
   rotate_left 1
   ·(intro w' hSw; (try dsimp only at hSw); go_simp; try with_reducible rfl)
   clear htk
   intro htk
   simp only [Nat.reduceAdd] at htk
   simp only [Act.put, qA, qB, qC, qD, qE, qF]
  clear htk
  refine n_done (by kernel_rfl) ?_
  clear hSk hSh i0 e0 e1 htx
  have i0 : w5.cell? ⟨w3.heap.size, 0, none⟩ = some (.int .i64 id) := hbi5.cell 0
  have e0 : w5.cell? ⟨w.heap.size, 0, none⟩ = some (.string w0) := hb5.cell 0
  have e1 : w5.cell? ⟨w.heap.size, 1, none⟩ = some (.string s1) := hb5.cell 1
  have li5 := hbi5.lt
  have lb5 := hb5.lt
  have hL5 := hL.keep hc05 nbE (fun _ _ => nbE)
  have hfnd := holds_fnd hin.path hq hqid hnn
  have hgrp := (holds_grp hin.path hq hqid hnn).2
  have hsid := fun f : Nd → Nd => setId_set (f := f) hq hqid (holds_nodup hin.path hnn)
  obtain ⟨hi', hnm, hr', hk', hs⟩ := h
  simp only [Nd.sub] at hq hcell hsid
  obtain ⟨rb', cap', Fc, z4, _, _, hrbF, hFcF, hpc, hup⟩ := hin.pt.child hq
  obtain ⟨he1, -, -⟩ := Value.slice.inj (Option.some.inj (hcell.symm.trans z4))
  obtain rfl : rb = rb' := by simpa using he1
  obtain ⟨qi, qn, qr, qk, qs⟩ := q
  have Hclose := Lib.hid (show ∀ (f : Nd → Nd) wE F9, Upd w B0 rb (j * 5) (.mk qi qn qr qk qs) Fc wE (f (.mk qi qn qr qk qs)) F9 → ∃ F7, Upd w B0 gb 0 (rootNd l) F wE (rootNd (grpT id (setId id f) l)) F7 from fun f wE F9 hu => by
   obtain ⟨F8, hu8⟩ := hup wE _ F9 hu
   obtain ⟨F7, hu7⟩ := hin.upd wE _ F8 hu8
   have e9 : C (.mk hi' hnm hr' hk' (hs.set j (f (.mk qi qn qr qk qs)))) = rootNd (grpT id (setId id f) l) := by
    rw [← hsid f]
    exact hgrp (setId id f)
   rw [e9] at hu7
   exact ⟨F7, hu7⟩)
  have hpc5 := hpc.keep0 hc05
  obtain ⟨vq5, _, n0, n1, n2, n3, n4, nfz⟩ := hpc5.form
  have Hfnd := Lib.hid (show fndL id l = some (.mk qi qn qr qk qs) from hfnd)
  clear hfnd hgrp hsid hup hin hq hqid hcell z4 hrbF hFcF
  have fz : w5.frozen? ⟨rb, j * 5 + 3, none⟩ = false := nfz (j * 5 + 3)
  have hlc := lt_of_cell n1
  have Hnfz := Lib.hid nfz
  have Hpc := Lib.hid hpc
  have Hpc5 := Lib.hid hpc5
  clear nfz hpc hpc5 n0 n1 n4
  by_cases hqk : qk = 2
  ·have hqb : ((qk : Int) != 2) = false := by rw [hqk]; rfl
   have Hqk := Lib.hid hqk
   clear hqk
   go_wp2_with fail
   go_ret
   have hu := Hpc5.out.field 3 (by decide) (.int .i64 3) qi qn qr 3 (fun v => rfl)
   obtain ⟨F7, hu7⟩ := Hclose.out (kindTo 3) _ Fc (hu.ahead hc05 Hpc.out nbE (fun _ _ => nbE) (fun _ e => nbE e))
   unfold opF
   rw [Hfnd.out]
   dsimp only
   rw [if_neg (by rw [Hw0d.out]; decide +kernel), if_neg (by rw [Hw0d.out]; decide +kernel), if_neg (by rw [Hw0d.out]; decide +kernel), if_pos Hw0d.out, if_pos (show (Nd.mk qi qn qr qk qs).kind = 2 from Hqk.out)]
   exact ⟨hu7.chg, rfl, F7, hL.upd hu7, hu7.sub⟩
  ·have hqb : ((qk : Int) != 2) = true := by rw [bne_iff_ne]; exact hqk
   have gn := hG5.kind
   obtain ⟨Tn, vN, hN⟩ := hG.kform
   rw [hN] at gn
   have HN := Lib.hid hN
   have Hqk := Lib.hid hqk
   clear hN hqk
   go_wp2_with fail
   go_ret
   unfold opF
   rw [Hfnd.out]
   dsimp only
   rw [if_neg (by rw [Hw0d.out]; decide +kernel), if_neg (by rw [Hw0d.out]; decide +kernel), if_neg (by rw [Hw0d.out]; decide +kernel), if_pos Hw0d.out, if_neg (show ¬ (Nd.mk qi qn qr qk qs).kind = 2 from Hqk.out)]
   exact ⟨hc05.mono (fun _ _ e => nbE e), congrArg Ending.returned HN.out.symm⟩
theorem edit_loosen (B0 gb : Nat) (E : Er → Value) (N K : Value) (line w0 s1 : ByteArray) (hws : wordsB line = [w0, s1]) (l : List Nd) (nx m : Int) (F : List Nat) (w : World) (hG : EvG B0 E N K m w) (hl : line.size ≤ 10000) (hB : B0 ≤ gb) (hL : LogSt w B0 gb l nx F) (hn : (idsL l).Nodup) (hw0d : w0 = bLoosen) (id : Int) (hnum : numF s1.data.toList = some id) :
  Calls Tryz.prog 30 #[.pointer (some ⟨gb, 0, none⟩), .string line] w (RetEd B0 gb E N K (opF w0 ⟨#[]⟩ id 0 l nx) F w) := by
 have hk : manyF w0 = some 1 := by rw [hw0d]; decide +kernel
 have hnn : (idsL (rootNd l).sub).Nodup := hn
 have Hw0d := Lib.hid hw0d
 clear hw0d
 have hsp := Tryz.strings_Split line ⟨#[32]⟩ m w (by omega) hG.max (by decide)
 have hwl := words_len line
 have hwsz := words_size line
 have hwc := words_count line
 rw [split_words, ← hwl, hws] at hsp
 rw [hws] at hwsz hwc
 have hw0 := hwsz w0 (List.mem_cons_self ..)
 simp only [List.length_cons, List.length_nil, Nat.zero_add, Nat.reduceAdd] at hsp hwc
 obtain ⟨Tx, vx, hEx⟩ := hG.glo.errs.form .text
 have HEx := Lib.hid hEx
 have Hwsz := Lib.hid hwsz
 have hna : ¬ w0 = bAdd := fun e => by rw [e, many_add] at hk; cases hk
 have hab : (w0.toList == [97, 100, 100]) = false := by rw [bytes_beq]; exact decide_eq_false hna
 clear hwl hws hEx hwsz hna
 go_enter Tryz.func30, Tryz.ntmps30
 go_wp2_with fail
 refine hsp.mono ?_
 rintro en w1 ⟨rfl, hww⟩
 have hc1 : Chg NoB w w1 := by
  rw [← hww.symm]
  repeat (first | exact Chg.refl _ _ | apply Chg.alloc | apply Chg.drew)
 have hb1 : Blk w1 w.heap.size (([w0, s1]).map Value.string) 9 := by rw [hww]; exact Blk.newAt rfl
 clear hsp hww
 have e0 : w1.cell? ⟨w.heap.size, 0, none⟩ = some (.string w0) := hb1.cell 0
 have hz1 := hb1.lt
 have hG1 := hG.keep0 hc1
 have htx := hG1.glo.errs.cell .text
 simp only [Er.g] at htx
 rw [HEx.out] at htx
 go_wp2_with fail
 refine wp_region_n (fun w' => w'.cell? ⟨w.heap.size, 0, none⟩ = some (.string w0)) [] (by kernel_rfl) ?_ (fun hSh => ?_)
 ·exact e0
 refine n_from 1 ?_
 intro htk
 iterate 3
  refine n_tB (v := ?_) htk rfl (Or.inl ⟨by rfl, ?_⟩) ?_
  rotate_left 1
  ·(intro w' hSw; (try dsimp only at hSw); go_simp; try with_reducible rfl)
  clear htk
  intro htk
  simp only [Nat.reduceAdd] at htk
  simp only [Act.put, qA, qB, qC, qD, qE, qF]
 clear htk
 refine n_step 0 rfl (by kernel_rfl) ?_
 go_wp2_with fail
 refine (many_any w1.drew).mono ?_
 rintro en w2 ⟨bm, D, rfl, hSM, hMD, hc2⟩
 have hc02 : Chg NoB w w2 := hc1.tr hc2.ofDrew
 have hb2 := hb1.keep hc2.ofDrew nbE
 have hlM := hSM.lt
 obtain ⟨cM, hlk, hcn⟩ := many_look hSM hMD w0 (by unfold maxLen; omega)
 rw [hk] at hlk hcn
 have Hcn := Lib.hid hcn
 have HMD := Lib.hid hMD
 clear hcn hMD
 go_wp2_with fail
 refine ⟨fun _ => hb2.cell 0, fun hSk => ?_⟩
 replace hSk := hSk (by rfl)
 refine n_step 4 rfl (by kernel_rfl) ?_
 go_wp2_with fail
 refine ⟨fun _ => hb2.cell 0, fun hSk => ?_⟩
 replace hSk := hSk (by rfl)
 refine n_from 5 ?_
 intro htk
 iterate 5
  refine n_tB (v := ?_) htk rfl (Or.inl ⟨by rfl, ?_⟩) ?_
  rotate_left 1
  ·(intro w' hSw; (try dsimp only at hSw); go_simp; try with_reducible rfl)
  clear htk
  intro htk
  simp only [Nat.reduceAdd] at htk
  simp only [Act.put, qA, qB, qC, qD, qE, qF]
 clear htk
 refine n_done (by kernel_rfl) ?_
 clear hSk hSh e0 htx
 have e0 : w2.cell? ⟨w.heap.size, 0, none⟩ = some (.string w0) := hb2.cell 0
 have hG2 := hG.keep0 hc02
 have htx := hG2.glo.errs.cell .text
 simp only [Er.g] at htx
 rw [HEx.out] at htx
 obtain rfl := Hcn.out 1 rfl
 have hs1 : s1.size ≤ 10000 := by have := Hwsz.out s1 (List.mem_cons_of_mem _ (List.mem_cons_self ..)); omega
 have e1 : w2.cell? ⟨w.heap.size, 1, none⟩ = some (.string s1) := hb2.cell 1
 have hz2 := hb2.lt
 have hnumE := number_any s1 w2 hG2.glo (by omega)
 clear hlk
 go_wp2_with fail
 refine hnumE.mono ?_
 rintro en w3 ⟨vn, rfl, hc3, hvn⟩
 clear hnumE
 have Hvn := Lib.hid hvn
 have hc03 := hc02.tr hc3
 have hb3 := hb2.keep hc3 nbE
 have hG3 := hG.keep0 hc03
 clear hvn e0 e1 htx
 have e0 : w3.cell? ⟨w.heap.size, 0, none⟩ = some (.string w0) := hb3.cell 0
 have e1 : w3.cell? ⟨w.heap.size, 1, none⟩ = some (.string s1) := hb3.cell 1
 have hz3 := hb3.lt
 have htx := hG3.glo.errs.cell .text
 simp only [Er.g] at htx
 rw [HEx.out] at htx
 have htxl : 2 < w3.heap.size := lt_of_cell htx
 have hvi := Hvn.out id hnum
 subst vn
 rw [hnum]
 have hq1 : ((w0).toList == [109, 111, 118, 101]) = decide (w0 = bMove) := by rw [bytes_beq]; rfl
 have hq2 : ((w0).toList == [100, 114, 111, 112]) = decide (w0 = bDrop) := by rw [bytes_beq]; rfl
 have hq3 : ((w0).toList == [114, 101, 110, 97, 109, 101]) = decide (w0 = bRename) := by rw [bytes_beq]; rfl
 have hq4 : ((w0).toList == [119, 105, 100, 101, 110]) = decide (w0 = bWiden) := by rw [bytes_beq]; rfl
 have hq5 : ((w0).toList == [108, 111, 111, 115, 101, 110]) = decide (w0 = bLoosen) := by rw [bytes_beq]; rfl
 rw [decide_eq_false (by rw [Hw0d.out]; decide +kernel)] at hq1 hq2 hq3 hq4
 rw [decide_eq_true Hw0d.out] at hq5
 clear hnum
 go_wp2_with fail
 generalize hwi : World.alloc w3 _ = wi
 have hci : Chg NoB w3 wi := by
  rw [← hwi]
  repeat (first | exact Chg.refl _ _ | apply Chg.alloc | apply Chg.drew)
 have hbi : Blk wi (w3.heap.size) ([.int .i64 id]) 3 := by
  rw [← hwi]
  repeat (first | exact Blk.newAt (by first | rfl | (simp; done) | (simp; omega)) | apply Blk.alloc | apply Blk.drew)
 clear hwi
 have hc0i := hc03.tr hci
 have i0 : wi.cell? ⟨w3.heap.size, 0, none⟩ = some (.int .i64 id) := hbi.cell 0
 have lwi := hbi.lt
 refine wp_region_n (fun w' => w'.cell? ⟨w3.heap.size, 0, none⟩ = some (.int .i64 id)) [] (by kernel_rfl) ?_ (fun hSh => ?_)
 ·exact i0
 refine n_from 0 ?_
 intro htk
 iterate 4
  refine n_tB (v := ?_) htk rfl (Or.inl ⟨by rfl, ?_⟩) ?_
  rotate_left 1
  ·(intro w' hSw; (try dsimp only at hSw); go_simp; try with_reducible rfl)
  clear htk
  intro htk
  simp only [Nat.reduceAdd] at htk
  simp only [Act.put, qA, qB, qC, qD, qE, qF]
 clear htk
 refine n_step 4 rfl (by kernel_rfl) ?_
 go_wp2_with fail
 refine (at_any w B0 id _ gb 0 (rootNd l) F wi.drew (Nat.le_refl _) hL.pt hc0i.drew).mono ?_
 rintro en w5 ⟨hc5, (⟨hno, rfl⟩ | ⟨hb, ho, h, Fh, C, rb, cap, j, q, rfl, hin, hq, hqid, hcell⟩)⟩
 ·have hc05 : Chg NoB w w5 := hc0i.tr hc5.ofDrew
  have hbi5 := hbi.keep hc5.ofDrew nbE
  have hb5 := (hb3.keep hci nbE).keep hc5.ofDrew nbE
  have hG5 := hG.keep0 hc05
  go_wp2_with fail
  refine ⟨fun _ => hbi5.cell 0, fun hSk => ?_⟩
  replace hSk := hSk (by rfl)
  refine n_from 5 ?_
  intro htk
  iterate 5
   refine n_tB (v := ?_) htk rfl (Or.inl ⟨by rfl, ?_⟩) ?_
   rotate_left 1
   ·(intro w' hSw; (try dsimp only at hSw); go_simp; try with_reducible rfl)
   clear htk
   intro htk
   simp only [Nat.reduceAdd] at htk
   simp only [Act.put, qA, qB, qC, qD, qE, qF]
  clear htk
  refine n_done (by kernel_rfl) ?_
  clear hSk hSh i0 e0 e1 htx
  have i0 : w5.cell? ⟨w3.heap.size, 0, none⟩ = some (.int .i64 id) := hbi5.cell 0
  have e0 : w5.cell? ⟨w.heap.size, 0, none⟩ = some (.string w0) := hb5.cell 0
  have e1 : w5.cell? ⟨w.heap.size, 1, none⟩ = some (.string s1) := hb5.cell 1
  have li5 := hbi5.lt
  have lb5 := hb5.lt
  have gn := hG5.non
  obtain ⟨Tn, vN, hN⟩ := hG.nform
  rw [hN] at gn
  have HN := Lib.hid hN
  clear hN
  go_wp2_with fail
  go_ret
  have hres : fndL id l = none := fndL_no id l hno
  unfold opF
  rw [hres]
  exact ⟨hc05.mono (fun _ _ e => nbE e), congrArg Ending.returned HN.out.symm⟩
 ·have hc05 : Chg NoB w w5 := hc0i.tr hc5.ofDrew
  have hbi5 := hbi.keep hc5.ofDrew nbE
  have hb5 := (hb3.keep hci nbE).keep hc5.ofDrew nbE
  have hG5 := hG.keep0 hc05
  go_wp2_with fail
  refine ⟨fun _ => hbi5.cell 0, fun hSk => ?_⟩
  replace hSk := hSk (by rfl)
  refine n_from 5 ?_
  intro htk
  iterate 5
   refine n_tB (v := ?_) htk rfl (Or.inl ⟨by rfl, ?_⟩) ?_
   rotate_left 1
   ·(intro w' hSw; (try dsimp only at hSw); go_simp; try with_reducible rfl)
   clear htk
   intro htk
   simp only [Nat.reduceAdd] at htk
   simp only [Act.put, qA, qB, qC, qD, qE, qF]
  clear htk
  refine n_done (by kernel_rfl) ?_
  clear hSk hSh i0 e0 e1 htx
  have i0 : w5.cell? ⟨w3.heap.size, 0, none⟩ = some (.int .i64 id) := hbi5.cell 0
  have e0 : w5.cell? ⟨w.heap.size, 0, none⟩ = some (.string w0) := hb5.cell 0
  have e1 : w5.cell? ⟨w.heap.size, 1, none⟩ = some (.string s1) := hb5.cell 1
  have li5 := hbi5.lt
  have lb5 := hb5.lt
  have hL5 := hL.keep hc05 nbE (fun _ _ => nbE)
  have hfnd := holds_fnd hin.path hq hqid hnn
  have hgrp := (holds_grp hin.path hq hqid hnn).2
  have hsid := fun f : Nd → Nd => setId_set (f := f) hq hqid (holds_nodup hin.path hnn)
  obtain ⟨hi', hnm, hr', hk', hs⟩ := h
  simp only [Nd.sub] at hq hcell hsid
  obtain ⟨rb', cap', Fc, z4, _, _, hrbF, hFcF, hpc, hup⟩ := hin.pt.child hq
  obtain ⟨he1, -, -⟩ := Value.slice.inj (Option.some.inj (hcell.symm.trans z4))
  obtain rfl : rb = rb' := by simpa using he1
  obtain ⟨qi, qn, qr, qk, qs⟩ := q
  have Hclose := Lib.hid (show ∀ (f : Nd → Nd) wE F9, Upd w B0 rb (j * 5) (.mk qi qn qr qk qs) Fc wE (f (.mk qi qn qr qk qs)) F9 → ∃ F7, Upd w B0 gb 0 (rootNd l) F wE (rootNd (grpT id (setId id f) l)) F7 from fun f wE F9 hu => by
   obtain ⟨F8, hu8⟩ := hup wE _ F9 hu
   obtain ⟨F7, hu7⟩ := hin.upd wE _ F8 hu8
   have e9 : C (.mk hi' hnm hr' hk' (hs.set j (f (.mk qi qn qr qk qs)))) = rootNd (grpT id (setId id f) l) := by
    rw [← hsid f]
    exact hgrp (setId id f)
   rw [e9] at hu7
   exact ⟨F7, hu7⟩)
  have hpc5 := hpc.keep0 hc05
  obtain ⟨vq5, _, n0, n1, n2, n3, n4, nfz⟩ := hpc5.form
  have Hfnd := Lib.hid (show fndL id l = some (.mk qi qn qr qk qs) from hfnd)
  clear hfnd hgrp hsid hup hin hq hqid hcell z4 hrbF hFcF
  have fz : w5.frozen? ⟨rb, j * 5 + 2, none⟩ = false := nfz (j * 5 + 2)
  have hlc := lt_of_cell n1
  have Hnfz := Lib.hid nfz
  have Hpc := Lib.hid hpc
  have Hpc5 := Lib.hid hpc5
  clear nfz hpc hpc5 n0 n1 n4
  by_cases hqk : qr = 1
  ·have hqb : ((qr : Int) != 1) = false := by rw [hqk]; rfl
   have Hqk := Lib.hid hqk
   clear hqk
   go_wp2_with fail
   go_ret
   have hu := Hpc5.out.field 2 (by decide) (.int .i64 2) qi qn 2 qk (fun v => rfl)
   obtain ⟨F7, hu7⟩ := Hclose.out (repTo 2) _ Fc (hu.ahead hc05 Hpc.out nbE (fun _ _ => nbE) (fun _ e => nbE e))
   unfold opF
   rw [Hfnd.out]
   dsimp only
   rw [if_neg (by rw [Hw0d.out]; decide +kernel), if_neg (by rw [Hw0d.out]; decide +kernel), if_neg (by rw [Hw0d.out]; decide +kernel), if_neg (by rw [Hw0d.out]; decide +kernel), if_pos (show (Nd.mk qi qn qr qk qs).rep = 1 from Hqk.out)]
   exact ⟨hu7.chg, rfl, F7, hL.upd hu7, hu7.sub⟩
  ·have hqb : ((qr : Int) != 1) = true := by rw [bne_iff_ne]; exact hqk
   have gn := hG5.kind
   obtain ⟨Tn, vN, hN⟩ := hG.kform
   rw [hN] at gn
   have HN := Lib.hid hN
   have Hqk := Lib.hid hqk
   clear hN hqk
   go_wp2_with fail
   go_ret
   unfold opF
   rw [Hfnd.out]
   dsimp only
   rw [if_neg (by rw [Hw0d.out]; decide +kernel), if_neg (by rw [Hw0d.out]; decide +kernel), if_neg (by rw [Hw0d.out]; decide +kernel), if_neg (by rw [Hw0d.out]; decide +kernel), if_neg (show ¬ (Nd.mk qi qn qr qk qs).rep = 1 from Hqk.out)]
   exact ⟨hc05.mono (fun _ _ e => nbE e), congrArg Ending.returned HN.out.symm⟩
end Go.Proofs.YtnmhkafpgohefaaGreatDoor
