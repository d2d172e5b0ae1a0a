/-
  shred.Shred of no records.; file.entry, closed; shredcolref3.footText, wrap: a footer's entry; a body and a footer as a file.; A file with a footer entry more: plain.; file.foot: the footer's text.
-/
import Derived.Test.YtkchmgjmecojcaaGreatDoorFtRes
import Derived.Test.YtkchmgjmecojcaaGreatDoorTree
import Derived.Test.YtkchmgjmecojcaaGreatDoorSumW
import Derived.Test.YtkchmgjmecojcaaGreatDoorSumR
import Derived.Test.YtkchmgjmecojcaaGreatDoorTxtR
import Derived.Test.YtkchmgjmecojcaaGreatDoorCode
import Derived.Test.YtkchmgjmecojcaaGreatDoorShelf
import Derived.Deep.QuietTactic
import Derived.BigQuiet
set_option linter.unusedVariables false
set_option maxHeartbeats 20000000
set_option maxRecDepth 100000
set_option linter.unusedSimpArgs false
namespace Go.Proofs.YtkchmgjmecojcaaGreatDoor
open Go.RowKit
theorem infoCol : (Tryz.prog.info? 68).map (fun i => (i.zero, i.size, i.bytes)) = some (some (.agg #[.int .i64 0, .slice none 0 0, .slice none 0 0, .slice none 0 0]), 4, 80) := by kernel_rfl
def colDt (x : Int) : Dt := .agg [.lit (.int .i64 x), .list 1 [], .list 1 [], .list 3 []]
theorem reads_col (w : World) (S : Nat → Prop) (x : Int) : Reads w S (colDt x) [.int .i64 x, .slice none 0 0, .slice none 0 0, .slice none 0 0] :=
 ⟨[_], _, rfl, ⟨rfl, rfl⟩, [_], _, rfl, ⟨none, 0, rfl, Nat.le_refl _, Nat.zero_le _, .inl ⟨rfl, fun _ => rfl⟩⟩, [_], _, rfl, ⟨none, 0, rfl, Nat.le_refl _, Nat.zero_le _, .inl ⟨rfl, fun _ => rfl⟩⟩, [_], [], rfl, ⟨none, 0, rfl, Nat.le_refl _, Nat.zero_le _, .inl ⟨rfl, fun _ => rfl⟩⟩, rfl⟩
theorem Own.ne {w : World} {B B' e e' k k' : Nat} {S S' : Nat → Prop} {v v' : Value} {ds ds' : List Dt} (h : Own w B e k S v ds) (h' : Own w B' e' k' S' v' ds') (hne : e ≠ e') : ∀ b, v.ownBlock = some b → v'.ownBlock = some b → False := by
 intro b hb hb'
 obtain ⟨xs, h1, _⟩ := h
 obtain ⟨xs', h1', _⟩ := h'
 rcases h1.2 with ⟨rfl, _⟩ | ⟨g, cap, cur, rfl, _, hg, _⟩
 ·cases hb
 ·rcases h1'.2 with ⟨rfl, _⟩ | ⟨g', cap', cur', rfl, _, hg', _⟩
  ·cases hb'
  ·obtain rfl := Option.some.inj hb
   obtain rfl := Option.some.inj hb'
   have h9 := hg.symm.trans hg'
   simp only [Option.some.injEq, Obj.cells.injEq] at h9
   exact hne h9.2.1
def SnRel (L : List Lf) (w0 : World) (vi : Value) (wr : World) : Prop :=
 ∃ (j : Nat) (ca : Option Addr) (cc : Nat) (ma : Option Addr) (mc : Nat), j ≤ L.length ∧ vi = .int .i64 (j : Nat) ∧ Blk wr w0.heap.size [.slice ca j cc, .slice ma j mc] 114 ∧
  Own wr (w0.heap.size + 1) 68 4 (fun _ => False) (.slice ca j cc) ((L.take j).map (fun f => colDt f.id)) ∧ Own wr (w0.heap.size + 1) 3 1 (fun _ => False) (.slice ma j mc) ((L.take j).map (fun f => intDt f.md)) ∧ Chg NoB w0 wr
theorem shredNil_any (nd : Nd) (w : World) (S : Nat → Prop) (cs : List Value) (E : Er → Value) (hE : Errs w E) (hok : nd.ok) (hv : validF nd = none) (hr : Reads w S nd.dt cs) (hSB : ∀ b, S b → b < w.heap.size) :
  Calls Tryz.prog 17 #[.agg cs.toArray, .slice none 0 0] w (fun en w' => (∃ a n c, en = .returned (.tuple #[.slice a n c, .nilIface])) ∧ Chg NoB w w') := by
 have hlk := leaves_le hv
 have hr0 := hr
 obtain ⟨i, nm, r, k, sb⟩ := nd
 have hr' := hr
 obtain ⟨sv0, rfl, hs⟩ := reads_nd.1 hr'
 obtain ⟨sa, cap, rfl, -, -, -⟩ := reads_subs hs
 clear hs hr'
 go_enter Tryz.func17, Tryz.ntmps17
 go_wp2_with fail
 generalize hw1 : World.alloc _ _ = w1
 have hc1 : Chg NoB w w1 := by
  rw [← hw1]
  repeat (first | exact Chg.refl _ _ | apply Chg.alloc | apply Chg.drew)
 clear hw1
 have hSB1 : ∀ b, S b → b < w1.heap.size := fun b hb => Nat.lt_of_lt_of_le (hSB b hb) hc1.size
 refine (leavesAll_any (.mk i nm r k sb) w1 S _ E (hE.keep0 hc1) hok (hr.chg0 hc1) hSB1).mono ?_
 rintro en w2 ⟨hc2, hm2⟩
 rw [hv] at hm2
 obtain ⟨a2, c2, rfl, hrd2⟩ := hm2
 obtain ⟨L, hL⟩ : ∃ L, L = leavesOf (.mk i nm r k sb) := ⟨_, rfl⟩
 rw [← hL] at hrd2 hlk ⊢
 have HL := Lib.hid hL
 have hc02 := hc1.tr hc2
 obtain ⟨A2, C2, hform, hl1, hl3, hls⟩ := reads_list hrd2
 rw [List.length_map] at hform hl1 hls
 obtain ⟨rfl, _, rfl⟩ := Value.slice.inj hform
 have Hls := Lib.hid hls
 clear hL hls hform hr hr0
 go_wp2_with fail
 generalize hw3 : World.alloc _ _ = w3
 have hc3 : Chg NoB w2 w3 := by
  rw [← hw3]
  repeat (first | exact Chg.refl _ _ | apply Chg.alloc | apply Chg.drew)
 have hb3 : Blk w3 (w2.heap.size) ([.slice none 0 0, .slice none 0 0]) 114 := by
  rw [← hw3]
  repeat (first | exact Blk.newAt (by first | rfl | (simp; done) | (simp; omega)) | apply Blk.alloc | apply Blk.drew)
 clear hw3
 go_loopw [32] (SnRel L w2) (fun vi _ => L.length - (intOf vi).toNat)
 case atStart => exact ⟨0, none, 0, none, 0, Nat.zero_le _, rfl, hb3, Own.nil _ _ _ _ _, Own.nil _ _ _ _ _, hc3⟩
 case round =>
  obtain ⟨j, ca, cc, ma, mc, hj, rfl, hb, hoc, hom, hc⟩ := hrel
  by_cases hlt : j < L.length
  ·have hltI : (j : Int) < (L.length : Int) := by omega
   obtain ⟨b, off, rfl, hSb, hb2, hE2⟩ := Hls.out (by omega)
   obtain ⟨f, hf⟩ : ∃ f, L[j]? = some f := ⟨_, List.getElem?_eq_getElem hlt⟩
   obtain ⟨fc, f1, f2, f3⟩ := ReadsE.get hE2 j f.dt (by rw [List.getElem?_map, hf]; rfl)
   obtain ⟨fid, fk, fmr, fmd, fp⟩ := f
   obtain ⟨fv, rfl, hfp⟩ := reads_lf.1 f3
   obtain ⟨fa, fcap, rfl, -, -, -⟩ := reads_list hfp
   have hcx := fun t v ht => (hc.cell (p := ⟨b, off + j * 5 + t, none⟩) hb2 nbE).trans (f2 t v ht)
   have e0 : wr.cell? ⟨b, off + j * 5, none⟩ = some (.int .i64 fid) := hcx 0 _ rfl
   have e1 : wr.cell? ⟨b, off + j * 5 + 1, none⟩ = some (.int .i64 fk) := hcx 1 _ rfl
   have e2 : wr.cell? ⟨b, off + j * 5 + 2, none⟩ = some (.int .i64 fmr) := hcx 2 _ rfl
   have e3 : wr.cell? ⟨b, off + j * 5 + 3, none⟩ = some (.int .i64 fmd) := hcx 3 _ rfl
   have e4 : wr.cell? ⟨b, off + j * 5 + 4, none⟩ = some (.slice fa (fp.map intDt).length fcap) := hcx 4 _ rfl
   have Hf := Lib.hid hf
   clear hcx f1 f2 f3 hfp hE2 hf
   go_wp2_with fail
   obtain ⟨wo, hwo⟩ : ∃ z, z = wr := ⟨_, rfl⟩
   subst hwo
   generalize hw4 : World.alloc _ _ = w4
   have hc4 : Chg NoB wo w4 := by
    rw [← hw4]
    repeat (first | exact Chg.refl _ _ | apply Chg.alloc | apply Chg.drew)
   have hx4 : Blk w4 (wo.heap.size) ([.int .i64 fid, .int .i64 fk, .int .i64 fmr, .int .i64 fmd, .slice fa fp.length fcap]) 72 := by
    rw [← hw4]
    repeat (first | exact Blk.newAt (by first | rfl | (simp; done) | (simp; omega)) | apply Blk.alloc | apply Blk.drew)
   clear hw4
   have hb4 := hb.keep hc4 nbE
   have hbl := hb.lt
   have hxl := hx4.lt
   have hne : w2.heap.size ≠ wo.heap.size := by omega
   have p0 : w4.cell? ⟨w2.heap.size, 0, none⟩ = some (.slice ca j cc) := hb4.cell 0
   have x0 : w4.cell? ⟨wo.heap.size, 0, none⟩ = some (.int .i64 fid) := hx4.cell 0
   clear e0 e1 e2 e3 e4
   refine wp_region_n (fun w' => w'.cell? ⟨w2.heap.size, 0, none⟩ = some (.slice ca j cc) ∧ w'.cell? ⟨wo.heap.size, 0, none⟩ = some (.int .i64 fid)) [12] (by kernel_rfl) ?_ (fun hSh => ?_)
   ·exact ⟨p0, x0⟩
   refine n_from 0 ?_
   intro htk
   iterate 8
    refine n_tB (v := ?_) htk rfl (Or.inl ⟨by rfl, ?_⟩) ?_
    rotate_left 1
    ·(intro w' hSw; (try dsimp only at hSw); go_simp; try with_reducible rfl)
    clear htk
    intro htk
    simp only [Nat.reduceAdd] at htk
    simp only [Act.put, qA, qB, qC, qD, qE, qF]
   clear htk
   refine n_step 8 rfl (by kernel_rfl) ?_
   go_wp2_with fail
   generalize hw5 : World.drew (World.alloc _ _) = w5
   have hc5 : Chg NoB w4 w5 := by
    rw [← hw5]
    repeat (first | exact Chg.refl _ _ | apply Chg.alloc | apply Chg.drew)
   have hb5 : Blk w5 (w4.heap.size) ([.int .i64 fid, .slice none 0 0, .slice none 0 0, .slice none 0 0]) 68 := by
    rw [← hw5]
    repeat (first | exact Blk.newAt (by first | rfl | (simp; done) | (simp; omega)) | apply Blk.alloc | apply Blk.drew)
   clear hw5
   refine ⟨fun _ => ⟨(hc5.cell (p := ⟨w2.heap.size, 0, none⟩) hb4.lt nbE).trans p0, (hc5.cell (p := ⟨wo.heap.size, 0, none⟩) hxl nbE).trans x0⟩, fun hSk => ?_⟩
   replace hSk := hSk (by rfl)
   refine n_step 9 rfl (by kernel_rfl) ?_
   have hdl : ((L.take j).map (fun f => colDt f.id)).length = j := by rw [List.length_map, List.length_take]; omega
   have hdm : ((L.take j).map (fun f => intDt f.md)).length = j := by rw [List.length_map, List.length_take]; omega
   have Hdl := Lib.hid hdl
   have Hdm := Lib.hid hdm
   have hs4 := hc4.size
   have hs5 := hc5.size
   have ho5 := (hoc.keep hc4 (fun _ h => h.elim) (fun _ _ => nbE)).keep hc5 (fun _ h => h.elim) (fun _ _ => nbE)
   have hm5 := (hom.keep hc4 (fun _ h => h.elim) (fun _ _ => nbE)).keep hc5 (fun _ h => h.elim) (fun _ _ => nbE)
   have hbO := Lib.hid hoc.block
   have hbM := Lib.hid hom.block
   clear hdl hdm
   refine wpList_own rfl (.tmp 40) (.tmp 44) 51 rfl (w2.heap.size + 1) 68 Tryz.underlying51 infoCol rfl (by decide) rfl ho5 rfl [colDt fid] [.int .i64 fid, .slice none 0 0, .slice none 0 0, .slice none 0 0] rfl (ReadsC.single rfl (reads_col _ _ _)) hb5.news (fun e => by cases e) ?_ ?_ ?_ ?_
   ·rw [Hdl.out]; simp [maxLen]; omega
   ·rw [Hdl.out]; omega
   ·omega
   intro ao6 cap6 w6 ho6 hc6 hat6
   rw [Hdl.out] at ho6 hat6 ⊢
   have hb6 := (hb4.keep hc5 nbE).keep hc6 (fun e => by have := (hbO.out _ e).1; omega)
   have hx6 := (hx4.keep hc5 nbE).keep hc6 (fun e => by have := (hbO.out _ e).2; omega)
   have hm6 := hm5.keep hc6 (fun _ h => h.elim) (fun z hz e => Own.ne ho5 hm5 (by decide) z e hz)
   have f0 : w6.frozen? ⟨w2.heap.size, 0, none⟩ = false := hb6.free 0
   have q0 : w6.cell? ⟨w2.heap.size, 0, none⟩ = some (.slice ca j cc) := hb6.cell 0
   have y0 : w6.cell? ⟨wo.heap.size, 0, none⟩ = some (.int .i64 fid) := hx6.cell 0
   go_wp2_with fail
   refine ⟨fun _ => ⟨q0, y0⟩, fun hSk => ?_⟩
   replace hSk := hSk (by rfl)
   refine n_step 10 rfl (by kernel_rfl) ?_
   go_wp2_with fail
   refine ⟨fun _ => ⟨q0, y0⟩, fun hSk => ?_⟩
   replace hSk := hSk (by rfl)
   refine n_step 11 rfl (by kernel_rfl) ?_
   go_wp2_with fail
   refine ⟨fun _ => ⟨q0, y0⟩, fun hSk => ?_⟩
   replace hSk := hSk (by rfl)
   refine n_step 12 rfl (by kernel_rfl) ?_
   go_wp2_with fail
   refine ⟨fun hx => absurd hx (by decide), fun _ => ?_⟩
   refine n_done (by kernel_rfl) ?_
   have hb7 := hb6.set 0 (.slice ao6 (j + 1) cap6)
   have hc7 : Chg (OneB w2.heap.size) w6 (w6.setCell ⟨w2.heap.size, 0, none⟩ (.slice ao6 (j + 1) cap6)) := (Chg.refl (OneB w2.heap.size) w6).setCell (p := ⟨w2.heap.size, 0, none⟩) (.inl rfl) _
   generalize w6.setCell ⟨w2.heap.size, 0, none⟩ (.slice ao6 (j + 1) cap6) = w7 at hb7 hc7 ⊢
   have hs6 := hc6.size
   have hs7 := hc7.size
   have hx7 := hx6.keep hc7 (fun e => by have e : wo.heap.size = w2.heap.size := e; omega)
   have ho7 := ho6.keep hc7 (fun _ h => h.elim) (fun z hz e => by have := (ho6.block z hz).1; have e : z = w2.heap.size := e; omega)
   have hm7 := hm6.keep hc7 (fun _ h => h.elim) (fun z hz e => by have := (hm6.block z hz).1; have e : z = w2.heap.size := e; omega)
   have hc07 : Chg NoB w2 w7 := (((hc.tr hc4).tr hc5).trans hc6 (fun z e => .inr (by have := (hbO.out z e).1; omega))).trans hc7 (fun z e => .inr (Nat.le_of_eq (Eq.symm e)))
   have p1 : w7.cell? ⟨w2.heap.size, 1, none⟩ = some (.slice ma j mc) := hb7.cell 1
   have x3 : w7.cell? ⟨wo.heap.size, 3, none⟩ = some (.int .i64 fmd) := hx7.cell 3
   have hxl7 := hx7.lt
   have hbl7 := hb7.lt
   clear q0 y0 f0 p0 x0 hSk
   go_wp2_with fail
   refine wp_region_n (fun w' => w'.cell? ⟨w2.heap.size, 1, none⟩ = some (.slice ma j mc) ∧ w'.cell? ⟨wo.heap.size, 3, none⟩ = some (.int .i64 fmd)) [11] (by kernel_rfl) ?_ (fun hSh => ?_)
   ·exact ⟨p1, x3⟩
   refine n_from 0 ?_
   intro htk
   iterate 7
    refine n_tB (v := ?_) htk rfl (Or.inl ⟨by rfl, ?_⟩) ?_
    rotate_left 1
    ·(intro w' hSw; (try dsimp only at hSw); go_simp; try with_reducible rfl)
    clear htk
    intro htk
    simp only [Nat.reduceAdd] at htk
    simp only [Act.put, qA, qB, qC, qD, qE, qF]
   clear htk
   refine n_step 7 rfl (by kernel_rfl) ?_
   go_wp2_with fail
   generalize hw8 : World.drew (World.alloc _ _) = w8
   have hc8 : Chg NoB w7 w8 := by
    rw [← hw8]
    repeat (first | exact Chg.refl _ _ | apply Chg.alloc | apply Chg.drew)
   have hb8 : Blk w8 (w7.heap.size) ([.int .i64 fmd]) 3 := by
    rw [← hw8]
    repeat (first | exact Blk.newAt (by first | rfl | (simp; done) | (simp; omega)) | apply Blk.alloc | apply Blk.drew)
   clear hw8
   refine ⟨fun _ => ⟨(hc8.cell (p := ⟨w2.heap.size, 1, none⟩) hbl7 nbE).trans p1, (hc8.cell (p := ⟨wo.heap.size, 3, none⟩) hxl7 nbE).trans x3⟩, fun hSk => ?_⟩
   replace hSk := hSk (by rfl)
   refine n_step 8 rfl (by kernel_rfl) ?_
   have hs8 := hc8.size
   have hm8 := hm7.keep hc8 (fun _ h => h.elim) (fun _ _ => nbE)
   have ho8 := ho7.keep hc8 (fun _ h => h.elim) (fun _ _ => nbE)
   refine wpList_own rfl (.tmp 52) (.tmp 55) 65 rfl (w2.heap.size + 1) 3 Tryz.underlying65 infoInt1 rfl (by decide) rfl hm8 rfl [intDt fmd] [.int .i64 fmd] rfl (ReadsC.single rfl ⟨rfl, rfl⟩) hb8.news (fun e => by cases e) ?_ ?_ ?_ ?_
   ·rw [Hdm.out]; simp [maxLen]; omega
   ·rw [Hdm.out]; omega
   ·omega
   intro ao9 cap9 w9 ho9 hc9 _
   rw [Hdm.out] at ho9 ⊢
   have hb9 := (hb7.keep hc8 nbE).keep hc9 (fun e => by have := (hbM.out _ e).1; omega)
   have hx9 := (hx7.keep hc8 nbE).keep hc9 (fun e => by have := (hbM.out _ e).2; omega)
   have hoc9 := ho8.keep hc9 (fun _ h => h.elim) (fun z hz e => Own.ne ho8 hm8 (by decide) z hz e)
   have f1 : w9.frozen? ⟨w2.heap.size, 1, none⟩ = false := hb9.free 1
   have q1 : w9.cell? ⟨w2.heap.size, 1, none⟩ = some (.slice ma j mc) := hb9.cell 1
   have y3 : w9.cell? ⟨wo.heap.size, 3, none⟩ = some (.int .i64 fmd) := hx9.cell 3
   go_wp2_with fail
   refine ⟨fun _ => ⟨q1, y3⟩, fun hSk => ?_⟩
   replace hSk := hSk (by rfl)
   refine n_step 9 rfl (by kernel_rfl) ?_
   go_wp2_with fail
   refine ⟨fun _ => ⟨q1, y3⟩, fun hSk => ?_⟩
   replace hSk := hSk (by rfl)
   refine n_step 10 rfl (by kernel_rfl) ?_
   go_wp2_with fail
   refine ⟨fun _ => ⟨q1, y3⟩, fun hSk => ?_⟩
   replace hSk := hSk (by rfl)
   refine n_step 11 rfl (by kernel_rfl) ?_
   go_wp2_with fail
   refine ⟨fun hx => absurd hx (by decide), fun _ => ?_⟩
   refine n_done (by kernel_rfl) ?_
   go_wp2_with fail
   go_roundw
   case rel =>
    have hbA := hb9.set 1 (.slice ao9 (j + 1) cap9)
    have hcA : Chg (OneB w2.heap.size) w9 (w9.setCell ⟨w2.heap.size, 1, none⟩ (.slice ao9 (j + 1) cap9)) := (Chg.refl (OneB w2.heap.size) w9).setCell (p := ⟨w2.heap.size, 1, none⟩) (.inl rfl) _
    have htk : L.take (j + 1) = L.take j ++ [⟨fid, fk, fmr, fmd, fp⟩] := by
     rw [List.take_add_one, Hf.out]; rfl
    refine ⟨j + 1, ao6, cap6, ao9, cap9, by omega, by go_num, hbA, ?_, ?_, ?_⟩
    ·rw [htk, List.map_append]
     exact hoc9.keep hcA (fun _ h => h.elim) (fun z hz e => by have := (hoc9.block z hz).1; have e : z = w2.heap.size := e; omega)
    ·rw [htk, List.map_append]
     exact ho9.keep hcA (fun _ h => h.elim) (fun z hz e => by have := (ho9.block z hz).1; have e : z = w2.heap.size := e; omega)
    ·exact ((hc07.tr hc8).trans hc9 (fun z e => .inr (by have := (hbM.out z e).1; omega))).trans hcA (fun z e => .inr (Nat.le_of_eq (Eq.symm e)))
   case measure => simp [intOf]; omega
  ·have hltI : ¬ (j : Int) < (L.length : Int) := by omega
   have p0 : wr.cell? ⟨w2.heap.size, 0, none⟩ = some (.slice ca j cc) := hb.cell 0
   go_wp2_with fail
   refine wp_loop_rounds 1 ?_
   rw [rounds_succ]
   go_wp2_with fail
   refine wp_loop_rounds 1 ?_
   rw [rounds_succ]
   go_wp2_with fail
   go_ret2
   exact ⟨⟨_, _, _, rfl⟩, hc02.tr hc⟩
theorem entry_len {n : Nat} (hn : n < 18446744073709551616) (l : List UInt8) (hl : l.length ≤ 1000000000) : (longL l).length ≤ 1000000010 := by
 have := Lib.uvarint_length64 (x := l.length) (by omega)
 unfold longL
 rw [List.length_append]
 omega
theorem entry_len2 (l : List UInt8) (hl : l.length ≤ 1000000000) : (longL l).length ≤ l.length + 10 := by
 have := Lib.uvarint_length64 (x := l.length) (by omega)
 unfold longL
 rw [List.length_append]
 omega
theorem fEntry_any (n : Nat) (s : ByteArray) (w : World) (hn : n ≤ 1000000) (hs : s.size ≤ 1000000000) : Calls Tryz.prog 12 #[.int .i64 (n : Nat), .string s] w (RetV (.string ⟨(entryL n s.data.toList).toArray⟩) w) := by
 have hlen := Lib.uvarint_length64 (x := n) (by omega)
 have hl2 := entry_len (n := n) (by omega) s.data.toList (by rw [size_list]; exact hs)
 have HH := Lib.hid (show (⟨(Lib.uvarint n).toArray⟩ : ByteArray) ++ ⟨(longL s.data.toList).toArray⟩ = ⟨(entryL n s.data.toList).toArray⟩ from bcat _ _)
 go_enter Tryz.func12, Tryz.ntmps12
 go_wp2_with fail
 refine (uvarint_any n w (by omega)).mono ?_
 rintro en w1 ⟨rfl, hc1⟩
 go_wp2_with fail
 refine (wtext_any s w1 (by omega)).mono ?_
 rintro en w2 ⟨rfl, hc2⟩
 go_wp2_with fail
 go_ret
 exact ⟨by rw [← HH.out]; rfl, hc1.tr hc2⟩
theorem footTextR_any (n : Nat) (s : ByteArray) (w : World) (hn : n ≤ 1000000) (hs : s.size ≤ 1000000000) : Calls Tryz.prog 15 #[.int .i64 (n : Nat), .string s] w (RetV (.string ⟨(entryL n s.data.toList).toArray⟩) w) := by
 have hlen := Lib.uvarint_length64 (x := n) (by omega)
 have hl2 := entry_len (n := n) (by omega) s.data.toList (by rw [size_list]; exact hs)
 have HH := Lib.hid (show (⟨(Lib.uvarint n).toArray⟩ : ByteArray) ++ ⟨(longL s.data.toList).toArray⟩ = ⟨(entryL n s.data.toList).toArray⟩ from bcat _ _)
 go_enter Tryz.func15, Tryz.ntmps15
 go_wp2_with fail
 refine (seven_any n w (by omega)).mono ?_
 rintro en w1 ⟨rfl, hc1⟩
 go_wp2_with fail
 refine (long_any s w1 (by omega)).mono ?_
 rintro en w2 ⟨rfl, hc2⟩
 go_wp2_with fail
 go_ret
 exact ⟨by rw [← HH.out]; rfl, hc1.tr hc2⟩
theorem wrap_ba (b f : ByteArray) : (⟨#[83, 72, 67, 49]⟩ : ByteArray) ++ b ++ f ++ ⟨(leL 4 f.size).toArray⟩ ++ ⟨(leL 4 (crcF f.data.toList)).toArray⟩ ++ ⟨#[83, 72, 67, 49]⟩ = ⟨(wrapL b.data.toList f.data.toList).toArray⟩ := by
 have e1 : b = ⟨b.data.toList.toArray⟩ := by simp
 have e2 : f = ⟨f.data.toList.toArray⟩ := by simp
 conv => lhs; rw [e1]
 rw [show (⟨#[83, 72, 67, 49]⟩ : ByteArray) = ⟨magicL.toArray⟩ from rfl]
 unfold wrapL
 rw [size_list f, ← bcat, ← bcat, ← bcat, ← bcat, ← bcat]
theorem fClosed_any (b f : ByteArray) (w : World) (hb : b.size ≤ 1000000000) (hf : f.size ≤ 1000000000) : Calls Tryz.prog 11 #[.string b, .string f] w (RetV (.string ⟨(wrapL b.data.toList f.data.toList).toArray⟩) w) := by
 have h1 : (leL 4 f.size).length ≤ 4 := by rw [leL_length]; exact Nat.le_refl _
 have h2 : (leL 4 (crcF f.data.toList)).length ≤ 4 := by rw [leL_length]; exact Nat.le_refl _
 have hcl := crcF_lt f.data.toList
 have HH := Lib.hid (wrap_ba b f)
 have hf1 := fun w => fixed_any 4 f.size w (by decide) (by decide) (by omega)
 have hf2 := fun w => fixed_any 4 (crcF f.data.toList) w (by decide) (by decide) (by omega)
 rw [show ((4 : Nat) : Int) = 4 from rfl] at hf1 hf2
 have Hf1 := Lib.hid hf1
 have Hf2 := Lib.hid hf2
 clear hf1 hf2
 go_enter Tryz.func11, Tryz.ntmps11
 go_wp2_with fail
 refine (Hf1.out w).mono ?_
 rintro en w1 ⟨rfl, hc1⟩
 go_wp2_with fail
 refine (sum_any f w1 (by omega)).mono ?_
 rintro en w2 ⟨rfl, hc2⟩
 go_wp2_with fail
 refine (Hf2.out w2).mono ?_
 rintro en w3 ⟨rfl, hc3⟩
 go_wp2_with fail
 go_ret
 exact ⟨by rw [← HH.out]; rfl, (hc1.tr hc2).tr hc3⟩
theorem wrapR_any (b f : ByteArray) (w : World) (hb : b.size ≤ 1000000000) (hf : f.size ≤ 1000000000) : Calls Tryz.prog 14 #[.string b, .string f] w (RetV (.string ⟨(wrapL b.data.toList f.data.toList).toArray⟩) w) := by
 have h1 : (leL 4 f.size).length ≤ 4 := by rw [leL_length]; exact Nat.le_refl _
 have h2 : (leL 4 (crcF f.data.toList)).length ≤ 4 := by rw [leL_length]; exact Nat.le_refl _
 have hcl := crcF_lt f.data.toList
 have HH := Lib.hid (wrap_ba b f)
 have hf1 := fun w => little_any 4 f.size w (by omega) (by decide)
 have hf2 := fun w => little_any 4 (crcF f.data.toList) w (by omega) (by decide)
 rw [show ((4 : Nat) : Int) = 4 from rfl] at hf1 hf2
 have Hf1 := Lib.hid hf1
 have Hf2 := Lib.hid hf2
 clear hf1 hf2
 go_enter Tryz.func14, Tryz.ntmps14
 go_wp2_with fail
 refine (Hf1.out w).mono ?_
 rintro en w1 ⟨rfl, hc1⟩
 go_wp2_with fail
 refine (remainder_any f w1 (by omega)).mono ?_
 rintro en w2 ⟨rfl, hc2⟩
 go_wp2_with fail
 refine (Hf2.out w2).mono ?_
 rintro en w3 ⟨rfl, hc3⟩
 go_wp2_with fail
 go_ret
 exact ⟨by rw [← HH.out]; rfl, (hc1.tr hc2).tr hc3⟩
theorem fClosedL_any (b f : List UInt8) (w : World) (hb : b.length ≤ 1000000000) (hf : f.length ≤ 1000000000) : Calls Tryz.prog 11 #[.string ⟨b.toArray⟩, .string ⟨f.toArray⟩] w (RetV (.string ⟨(wrapL b f).toArray⟩) w) := by
 have h := fClosed_any ⟨b.toArray⟩ ⟨f.toArray⟩ w (by rw [siz_list]; exact hb) (by rw [siz_list]; exact hf)
 rwa [dat_list, dat_list] at h
theorem wrapL_any (b f : List UInt8) (w : World) (hb : b.length ≤ 1000000000) (hf : f.length ≤ 1000000000) : Calls Tryz.prog 14 #[.string ⟨b.toArray⟩, .string ⟨f.toArray⟩] w (RetV (.string ⟨(wrapL b f).toArray⟩) w) := by
 have h := wrapR_any ⟨b.toArray⟩ ⟨f.toArray⟩ w (by rw [siz_list]; exact hb) (by rw [siz_list]; exact hf)
 rwa [dat_list, dat_list] at h
inductive PsR where
 | bad (e : Nat)
 | ok (s : List UInt8)
def passO (l t : List UInt8) (z : Nat) (n : Nat) : List UInt8 := wrapL ((l.drop 4).take (l.length - 12 - n - 4)) (entryL z t ++ footText l n)
def passF (l : List UInt8) (z : Int) (t : List UInt8) : PsR :=
 match openF l with
 | .bad e => .bad e
 | .ok _ _ n => if z < 3 ∨ 1000 < z then .bad 2 else if 200000 < (passO l t z.toNat n).length then .bad 2 else .ok (passO l t z.toNat n)
theorem pass_open {l : List UInt8} {e : Nat} (h : openF l = .bad e) (z : Int) (t : List UInt8) : passF l z t = .bad e := by unfold passF; rw [h]
theorem pass_num {l : List UInt8} {root : Nd} {gs : List Pt} {n : Nat} (h : openF l = .ok root gs n) {z : Int} (hz : z < 3 ∨ 1000 < z) (t : List UInt8) : passF l z t = .bad 2 := by unfold passF; rw [h]; exact if_pos hz
theorem pass_big {l : List UInt8} {root : Nd} {gs : List Pt} {n : Nat} (h : openF l = .ok root gs n) {z : Int} (hz : 3 ≤ z ∧ z ≤ 1000) {t : List UInt8} (hb : 200000 < (passO l t z.toNat n).length) : passF l z t = .bad 2 := by
 unfold passF; rw [h]; simp only; rw [if_neg (by omega), if_pos hb]
theorem pass_fine {l : List UInt8} {root : Nd} {gs : List Pt} {n : Nat} (h : openF l = .ok root gs n) {z : Int} (hz : 3 ≤ z ∧ z ≤ 1000) {t : List UInt8} (hb : (passO l t z.toNat n).length ≤ 200000) : passF l z t = .ok (passO l t z.toNat n) := by
 unfold passF; rw [h]; simp only; rw [if_neg (by omega), if_neg (by omega)]
theorem pass_ne (l t : List UInt8) (z n : Nat) : (passO l t z n).isEmpty = false := by
 unfold passO wrapL magicL
 rfl
def RetPs (bad : Nat → Ending) (good : Value) (o : PsR) (w : World) (en : Ending) (w' : World) : Prop :=
 Chg NoB w w' ∧ match o with
 | .bad e => en = bad e
 | .ok s => en = .returned (.tuple #[.string ⟨s.toArray⟩, good])
theorem pass_code {l : List UInt8} {z : Int} {t : List UInt8} {e : Nat} (h : passF l z t = .bad e) : e = 1 ∨ e = 2 ∨ e = 7 := by
 unfold passF at h
 split at h
 ·rename_i ho
  cases h
  exact open_code ho
 ·split at h
  ·cases h; simp
  ·split at h
   ·cases h; simp
   ·cases h
theorem ext_body (l : List UInt8) (a : Nat) : (⟨l.toArray⟩ : ByteArray).extract 4 a = ⟨((l.drop 4).take (a - 4)).toArray⟩ := by
 rw [ext_of, dat_list]
theorem ext_tail3 (l : List UInt8) (a n : Nat) (h : a + n + 12 = l.length) : (⟨l.toArray⟩ : ByteArray).extract a (a + n) = ⟨(footText l n).toArray⟩ := by
 rw [ext_of, dat_list]
 unfold footText
 rw [show a + n - a = n from by omega, show l.length - 12 - n = a from by omega]
theorem ftxt_le (l : List UInt8) (n : Nat) : (footText l n).length ≤ n := by
 unfold footText
 rw [List.length_take]
 omega
theorem ft_form {bad : Nat → Ending} {good : Value} {root : Nd} {gs : List Pt} {n : Nat} {w w' : World} {en : Ending} (h : RetFt bad good (.ok root gs n) w en w') :
  ∃ i nm r k a m c ga gn gc, en = .returned (.tuple #[.agg #[.int .i64 i, .string nm, .int .i64 r, .int .i64 k, .slice a m c, .slice ga gn gc, .int .i64 (n : Nat)], good]) ∧ Chg NoB w w' ∧
   Reads w' (fun b => w.heap.size ≤ b) root.dt [.int .i64 i, .string nm, .int .i64 r, .int .i64 k, .slice a m c] ∧ Reads w' (fun b => w.heap.size ≤ b) (.list 2 (gs.map Pt.dt)) [.slice ga gn gc] ∧ gn = gs.length := by
 obtain ⟨h0, i, nm, r, k, sv0, gv, rfl, h1, h2⟩ := h
 obtain ⟨i1, nm1, r1, k1, sb⟩ := root
 have h1' := h1
 obtain ⟨v, hv, hs⟩ := reads_nd.1 h1'
 obtain ⟨a, cap, rfl, -, -, -⟩ := reads_subs hs
 simp only [List.cons.injEq, and_true] at hv
 obtain ⟨-, -, -, -, rfl⟩ := hv
 have h2' := h2
 obtain ⟨ga, gc, rfl, -, -, -⟩ := reads_list h2'
 exact ⟨i, nm, r, k, a, _, cap, ga, _, gc, rfl, h0, h1, h2, List.length_map ..⟩
theorem rfL_any (l : List UInt8) (k : Nat) (w : World) (hk1 : 1 ≤ k) (hk : k ≤ 8) (hs : k ≤ l.length) (hb : l.length ≤ 9000000000000000000) : Calls Tryz.prog 58 #[.string ⟨l.toArray⟩, .int .i64 (k : Nat)] w (RetV (.tuple #[.int .u64 (leV (l.take k) : Nat), .nilIface]) w) := by
 have h := readFixed_any ⟨l.toArray⟩ k w hk1 hk (by rw [siz_list]; exact hs) (by rw [siz_list]; exact hb)
 rwa [dat_list] at h
theorem sumL_any (l : List UInt8) (w : World) (hb : l.length ≤ 9000000000000000000) : Calls Tryz.prog 32 #[.string ⟨l.toArray⟩] w (RetV (.int .u32 (crcF l : Nat)) w) := by
 have h := sum_any ⟨l.toArray⟩ w (by rw [siz_list]; exact hb)
 rwa [dat_list] at h
theorem prefix_take (l : List UInt8) : Lib.hasPrefix l magicL = decide (l.take 4 = magicL) := by
 rw [Bool.eq_iff_iff, decide_eq_true_iff]
 unfold Lib.hasPrefix
 rw [List.isPrefixOf_iff_prefix, List.prefix_iff_eq_take]
 exact ⟨fun h => h.symm, fun h => h.symm⟩
theorem suffix_drop (l : List UInt8) : Lib.hasSuffix l magicL = decide (l.drop (l.length - 4) = magicL) := by
 rw [Bool.eq_iff_iff, decide_eq_true_iff]
 unfold Lib.hasSuffix
 rw [List.isSuffixOf_iff_suffix, List.suffix_iff_eq_drop]
 exact ⟨fun h => h.symm, fun h => h.symm⟩
theorem ext_foot (l : List UInt8) (n : Nat) (h : n + 16 ≤ l.length) : (⟨l.toArray⟩ : ByteArray).extract (l.length - 4 - 8 - n) (l.length - 4 - 8) = ⟨(footText l n).toArray⟩ := by
 rw [ext_of, dat_list]
 unfold footText
 rw [show l.length - 4 - 8 - (l.length - 4 - 8 - n) = n from by omega, show l.length - 4 - 8 - n = l.length - 12 - n from by omega]
theorem footText_length {l : List UInt8} {n : Nat} (h : n + 16 ≤ l.length) : (footText l n).length = n := by
 unfold footText
 rw [List.length_take, List.length_drop]
 omega
def RetFoot (A : Nat → Addr) (l : List UInt8) (o : FtR) (w : World) (en : Ending) (w' : World) : Prop :=
 Chg NoB w w' ∧ match o with
 | .bad e => en = .returned (.tuple #[.string ⟨#[]⟩, sv (A (e - 1))])
 | .ok n => en = .returned (.tuple #[.string ⟨(footText l n).toArray⟩, .nilIface])
theorem foot_any (l : List UInt8) (w : World) (A : Nat → Addr) (hS : Sents w A) (hb : l.length ≤ 9000000000000000000) : Calls Tryz.prog 27 #[.string ⟨l.toArray⟩] w (RetFoot A l (footF l) w) := by
 have g0 := hS.cell 0 1 rfl
 have g1 := hS.cell 1 0 rfl
 have g6 := hS.cell 6 6 rfl
 have HA := Lib.hid (show ∀ k, sv (A k) = .iface 298 (.pointer (some (A k))) from fun _ => rfl)
 simp only [sv] at g0 g1 g6
 by_cases hbig : 200000 < l.length
 ·have hbig' : (200000 : Int) < (l.length : Int) := by omega
  go_enter Tryz.func27, Tryz.ntmps27
  go_wp2_with fail
  go_quiet (fail)
  go_wp2_with fail
  go_ret2
  refine ⟨(Chg.refl _ _).drewN _, ?_⟩
  rw [foot_big hbig]
  rfl
 have hbig' : ¬ (200000 : Int) < (l.length : Int) := by omega
 by_cases h16 : l.length < 16
 ·have h16' : (l.length : Int) < 16 := by omega
  go_enter Tryz.func27, Tryz.ntmps27
  go_wp2_with fail
  go_quiet (fail)
  go_wp2_with fail
  go_ret2
  refine ⟨(Chg.refl _ _).drewN _, ?_⟩
  rw [foot_form (by omega) (.inl h16)]
  rfl
 have h16' : ¬ (l.length : Int) < 16 := by omega
 have hpre := Tryz.strings_HasPrefix ⟨l.toArray⟩ ⟨#[83, 72, 67, 49]⟩ w
 have hsuf := Tryz.strings_HasSuffix ⟨l.toArray⟩ ⟨#[83, 72, 67, 49]⟩ w (by rw [siz_list]; omega)
 rw [dat_list, show (⟨#[83, 72, 67, 49]⟩ : ByteArray).data.toList = magicL from rfl, prefix_take] at hpre
 rw [dat_list, show (⟨#[83, 72, 67, 49]⟩ : ByteArray).data.toList = magicL from rfl, suffix_drop] at hsuf
 by_cases hm1 : l.take 4 = magicL
 ·by_cases hm2 : l.drop (l.length - 4) = magicL
  ·rw [decide_eq_true hm1] at hpre
   rw [decide_eq_true hm2] at hsuf
   have Hpre := Lib.hid hpre
   have Hsuf := Lib.hid hsuf
   have Hm1 := Lib.hid hm1
   have Hm2 := Lib.hid hm2
   clear hpre hsuf hm1 hm2
   go_enter Tryz.func27, Tryz.ntmps27
   go_wp2_with fail
   refine Hpre.out.mono ?_
   rintro en w0 ⟨rfl, rfl⟩
   go_wp2_with fail
   refine Hsuf.out.mono ?_
   rintro en w0 ⟨rfl, rfl⟩
   go_wp2_with fail
   have hA := fun w => rfL_any (l.drop (l.length - 4 - 8)) 4 w (by decide) (by decide) (by rw [List.length_drop]; omega) (by rw [List.length_drop]; omega)
   have hB := fun w => rfL_any (l.drop (l.length - 4 - 8 + 4)) 4 w (by decide) (by decide) (by rw [List.length_drop]; omega) (by rw [List.length_drop]; omega)
   rw [show ((4 : Nat) : Int) = 4 from rfl] at hA hB
   have eA : leV ((l.drop (l.length - 4 - 8)).take 4) = footLen l := by unfold footLen; rw [show l.length - 4 - 8 = l.length - 12 from by omega]
   have eB : leV ((l.drop (l.length - 4 - 8 + 4)).take 4) = footSum l := by unfold footSum; rw [show l.length - 4 - 8 + 4 = l.length - 8 from by omega]
   rw [eA] at hA
   rw [eB] at hB
   have hn32 : footLen l < 4294967296 := by
    rw [← eA]; exact Nat.lt_of_lt_of_le (leV_le (k := 4) (by rw [List.length_take]; omega)) (by decide)
   have hz32 : footSum l < 4294967296 := by
    rw [← eB]; exact Nat.lt_of_lt_of_le (leV_le (k := 4) (by rw [List.length_take]; omega)) (by decide)
   have HAA := Lib.hid hA
   have HBB := Lib.hid hB
   clear hA hB eA eB
   obtain ⟨n, hn⟩ : ∃ n, n = footLen l := ⟨_, rfl⟩
   obtain ⟨z, hz⟩ : ∃ z, z = footSum l := ⟨_, rfl⟩
   rw [← hn] at HAA hn32
   rw [← hz] at HBB hz32
   have Hn := Lib.hid hn
   have Hz := Lib.hid hz
   clear hn hz
   rw [extL]
   refine (HAA.out w0).mono ?_
   rintro en w1 ⟨rfl, hc1⟩
   go_wp2_with fail
   rw [extL]
   refine (HBB.out w1).mono ?_
   rintro en w2 ⟨rfl, hc2⟩
   have hc02 := hc1.tr hc2
   have g0' := (hc02.cell (lt_cell g0) nbE).trans g0
   by_cases hlen : l.length - 16 < n
   ·have hlen' : (l.length : Int) - 4 - 8 - 4 < (n : Int) := by omega
    go_wp2_with fail
    go_quiet (fail)
    go_wp2_with fail
    go_ret2
    refine ⟨hc02.drewN _, ?_⟩
    rw [foot_len (by omega) (by omega) Hm1.out Hm2.out (by rw [← Hn.out]; exact hlen)]
    rfl
   ·have hlen' : (n : Int) ≤ (l.length : Int) - 4 - 8 - 4 := by omega
    have hnI : (n : Int) ≤ 200000 := by omega
    have hzI : (z : Int) ≤ 4294967295 := by omega
    go_wp2_with fail
    rw [ext_foot l n (by omega)]
    refine (sumL_any (footText l n) w2 (by rw [footText_length (by omega)]; omega)).mono ?_
    rintro en w3 ⟨rfl, hc3⟩
    have hc03 := hc02.tr hc3
    have g6' := (hc03.cell (lt_cell g6) nbE).trans g6
    have hcl := crcF_lt (footText l n)
    by_cases hsum : z = crcF (footText l n)
    ·have hsum' : ((z : Int) != (crcF (footText l n) : Nat)) = false := by simp [hsum]
     have Hsum := Lib.hid hsum
     clear hsum
     go_wp2_with fail
     go_ret2
     refine ⟨hc03, ?_⟩
     rw [foot_fine (by omega) (by omega) Hm1.out Hm2.out (by rw [← Hn.out]; omega) (by rw [← Hn.out, ← Hz.out]; exact Hsum.out), ← Hn.out]
     rfl
    ·have hsum' : ((z : Int) != (crcF (footText l n) : Nat)) = true := by simp; omega
     have Hsum := Lib.hid hsum
     clear hsum
     go_wp2_with fail
     go_quiet (fail)
     go_wp2_with fail
     go_ret2
     refine ⟨hc03.drewN _, ?_⟩
     rw [foot_sum (by omega) (by omega) Hm1.out Hm2.out (by rw [← Hn.out]; omega) (by rw [← Hn.out, ← Hz.out]; exact Hsum.out)]
     rfl
  ·rw [decide_eq_true hm1] at hpre
   rw [decide_eq_false hm2] at hsuf
   have Hpre := Lib.hid hpre
   have Hsuf := Lib.hid hsuf
   have Hm2 := Lib.hid hm2
   clear hpre hsuf hm1 hm2
   go_enter Tryz.func27, Tryz.ntmps27
   go_wp2_with fail
   refine Hpre.out.mono ?_
   rintro en w0 ⟨rfl, rfl⟩
   go_wp2_with fail
   refine Hsuf.out.mono ?_
   rintro en w0 ⟨rfl, rfl⟩
   go_wp2_with fail
   go_quiet (fail)
   go_wp2_with fail
   go_ret2
   refine ⟨(Chg.refl _ _).drewN _, ?_⟩
   rw [foot_form (by omega) (.inr (.inr Hm2.out))]
   rfl
 ·rw [decide_eq_false hm1] at hpre
  have Hpre := Lib.hid hpre
  have Hm1 := Lib.hid hm1
  clear hpre hsuf hm1
  go_enter Tryz.func27, Tryz.ntmps27
  go_wp2_with fail
  refine Hpre.out.mono ?_
  rintro en w0 ⟨rfl, rfl⟩
  go_wp2_with fail
  go_quiet (fail)
  go_wp2_with fail
  go_ret2
  refine ⟨(Chg.refl _ _).drewN _, ?_⟩
  rw [foot_form (by omega) (.inr (.inl Hm1.out))]
  rfl
end Go.Proofs.YtkchmgjmecojcaaGreatDoor
