/-
 evolve's Replay of one line: what the closed fact needs.
-/
import Derived.Test.YtgcmfpcgmkkobaaGreatDoorEditE
set_option linter.unusedVariables false
set_option linter.unusedSimpArgs false
namespace Go.Proofs.YtgcmfpcgmkkobaaGreatDoor
open Go.RowKit

theorem log_reads {lo : Nat} {w : World} {sb cp : Nat} {sa : Option Addr} {sc : Nat} (hlo : lo ≤ sb) (hlt : sb < w.heap.size) (h1 : 1 ≤ cp) (h2 : cp ≤ maxLen) (h3 : sc ≤ maxLen ∧ (sa = none → sc = 0))
  (c0 : w.cell? ⟨sb, 0, none⟩ = some (.int .i64 1)) (c1 : w.cell? ⟨sb, 1, none⟩ = some (.string ⟨#[97]⟩)) (c2 : w.cell? ⟨sb, 2, none⟩ = some (.int .i64 1)) (c3 : w.cell? ⟨sb, 3, none⟩ = some (.int .i64 2)) (c4 : w.cell? ⟨sb, 4, none⟩ = some (.slice sa 0 sc)) :
  Reads w (fun b => lo ≤ b ∧ b < w.heap.size) leafNd.dt [.int .i64 0, .string rootName, .int .i64 1, .int .i64 0, .slice (some ⟨sb, 0, none⟩) 1 cp] := by
 refine reads_nd.2 ⟨_, rfl, ?_⟩
 refine ⟨_, _, rfl, h1, h2, .inr ⟨sb, 0, rfl, ⟨hlo, hlt⟩, hlt, ⟨?_, ?_, ?_⟩, True.intro⟩⟩
 ·exact [.int .i64 1, .string ⟨#[97]⟩, .int .i64 1, .int .i64 2, .slice sa 0 sc]
 ·rfl
 ·refine ⟨fun j c hj => ?_, reads_nd.2 ⟨_, rfl, ?_⟩⟩
  ·rw [Nat.zero_add]
   match j, hj with
   | 0, hj => obtain rfl := Option.some.inj hj; exact c0
   | 1, hj => obtain rfl := Option.some.inj hj; exact c1
   | 2, hj => obtain rfl := Option.some.inj hj; exact c2
   | 3, hj => obtain rfl := Option.some.inj hj; exact c3
   | 4, hj => obtain rfl := Option.some.inj hj; exact c4
  ·exact ⟨sa, sc, rfl, Nat.zero_le _, h3.1, .inl ⟨rfl, h3.2⟩⟩

/-- The log along the loop. -/
def RepRel (gb : Nat) (w : World) (vi : Value) (wr : World) : Prop :=
 (vi = .int .i64 0 ∧ Blk wr gb [.int .i64 0, .string rootName, .int .i64 1, .int .i64 0, .slice none 0 0, .int .i64 1] 63 ∧ Chg (OneB gb) w wr) ∨
 (vi = .int .i64 1 ∧ LogOne gb w.heap.size wr ∧ Chg (OneB gb) w wr)
/-- What Replay answers. -/
def RetRep (w : World) (en : Ending) (w' : World) : Prop :=
 ∃ sb cp, en = .returned (.tuple #[.agg #[.int .i64 0, .string rootName, .int .i64 1, .int .i64 0, .slice (some ⟨sb, 0, none⟩) 1 cp], .int .i64 2, .nilIface]) ∧ 1 ≤ cp ∧ w'.cell? ⟨sb, 0, none⟩ = some (.int .i64 1) ∧ sb < w'.heap.size ∧ Chg NoB w w'

set_option maxHeartbeats 2000000 in
set_option maxRecDepth 100000 in
theorem replay_first (pb : Nat) (m : Int) (w : World) (E : Er → Value) (hG : Glo w.heap.size E w) (hp : w.cell? ⟨pb, 0, none⟩ = some (.string editB)) (hm : w.cell? ⟨11, 0, none⟩ = some (.int .i64 m))
  (htab : Lib.TabIs Tryz.prog w "strings.asciiSpace" .u8 Lib.asciiSpaceTab) :
  Calls Tryz.prog 11 #[.slice (some ⟨pb, 0, none⟩) 1 1] w (RetRep w) := by
 have hpl := lt_of_cell hp
 have hml := lt_of_cell hm
 go_enter Tryz.func11, Tryz.ntmps11
 go_wp2_with fail
 generalize hw1 : World.alloc _ _ = w1
 have hc1 : Chg NoB w w1 := by
  rw [← hw1]
  repeat (first | exact Chg.refl _ _ | apply Chg.alloc | apply Chg.drew)
 have hr1 : Blk w1 (w.heap.size) (ndCells 0 ⟨#[]⟩ 0 0 (.slice none 0 0)) 28 := by
  rw [← hw1]
  repeat (first | exact Blk.newAt (by first | rfl | (simp; done) | (simp; omega)) | apply Blk.alloc | apply Blk.drew)
 have hg1 : Blk w1 (w.heap.size + 1) ([.int .i64 0, .string rootName, .int .i64 1, .int .i64 0, .slice none 0 0, .int .i64 1]) 63 := by
  rw [← hw1]
  repeat (first | exact Blk.newAt (by first | rfl | (simp; done) | (simp; omega)) | apply Blk.alloc | apply Blk.drew)
 clear hw1
 have hr1l := hr1.lt
 have hg1l := hg1.lt
 go_loopw [19] (fun vi wr => RepRel (w.heap.size + 1) w1 vi wr) (fun vi _ => 1 - (intOf vi).toNat)
 case atStart => exact .inl ⟨rfl, hg1, Chg.refl _ _⟩
 case round =>
  rcases hrel with ⟨rfl, hgr, hcr⟩ | ⟨rfl, hlr, hcr⟩
  ·have hcw : Chg NoB w wr := hc1.trans' hcr (fun y e => by have e : y = w.heap.size + 1 := e; omega)
   have hp1 : wr.cell? ⟨pb, 0, none⟩ = some (.string editB) := (hcw.cell (p := ⟨pb, 0, none⟩) hpl NoB.elim).trans hp
   unfold editB at hp1
   go_wp2_with fail
   refine (edit_first (w.heap.size + 1) m wr E ((hG.keep0 hcw).up hcw.size) hgr ((hcw.cell hml NoB.elim).trans hm) (by omega) (tab_ascii htab hcw)).mono ?_
   rintro en w2 ⟨rfl, hl2, hc2⟩
   obtain ⟨sb, cp, sa, sc, hg2, hlo, hsb, h1, h2, h3, c0, c1, c2, c3, c4⟩ := hl2
   have g0 : w2.cell? ⟨w.heap.size + 1, 0, none⟩ = some (.int .i64 0) := hg2.cell 0
   have g1 : w2.cell? ⟨w.heap.size + 1, 1, none⟩ = some (.string rootName) := hg2.cell 1
   have g2 : w2.cell? ⟨w.heap.size + 1, 2, none⟩ = some (.int .i64 1) := hg2.cell 2
   have g3 : w2.cell? ⟨w.heap.size + 1, 3, none⟩ = some (.int .i64 0) := hg2.cell 3
   have g4 : w2.cell? ⟨w.heap.size + 1, 4, none⟩ = some (.slice (some ⟨sb, 0, none⟩) 1 cp) := hg2.cell 4
   have hcw2 : Chg NoB w w2 := hcw.trans' hc2 (fun y e => by have e : y = w.heap.size + 1 := e; omega)
   go_wp2_with fail
   have hv := valid_any leafNd w2 _ _ E (hG.keep0 hcw2).errs leafNd_ok (log_reads (lo := wr.heap.size) hlo hsb h1 h2 h3 c0 c1 c2 c3 c4) (fun b hb => hb.2)
   rw [leaf_valid] at hv
   refine hv.mono ?_
   rintro en w3 ⟨rfl, hc3⟩
   rw [show errVal E none = .nilIface from rfl]
   have hg3 := hg2.keep hc3 NoB.elim
   clear hv g0 g1 g2 g3 g4
   go_wp2_with fail
   go_roundw
   case rel =>
    have hz := hc1.size
    have hz2 := hcr.size
    refine .inr ⟨rfl, ⟨sb, cp, sa, sc, hg3, by omega, Nat.lt_of_lt_of_le hsb hc3.size, h1, h2, h3, (hc3.cell hsb NoB.elim).trans c0, (hc3.cell hsb NoB.elim).trans c1, (hc3.cell hsb NoB.elim).trans c2, (hc3.cell hsb NoB.elim).trans c3, (hc3.cell hsb NoB.elim).trans c4⟩, (hcr.trans hc2 (fun _ e => .inl e)).tr hc3⟩
   case measure => simp [intOf]
  ·obtain ⟨sb, cp, sa, sc, hg2, hlo, hsb, h1, h2, h3, c0, c1, c2, c3, c4⟩ := hlr
   have g0 : wr.cell? ⟨w.heap.size + 1, 0, none⟩ = some (.int .i64 0) := hg2.cell 0
   have g1 : wr.cell? ⟨w.heap.size + 1, 1, none⟩ = some (.string rootName) := hg2.cell 1
   have g2 : wr.cell? ⟨w.heap.size + 1, 2, none⟩ = some (.int .i64 1) := hg2.cell 2
   have g3 : wr.cell? ⟨w.heap.size + 1, 3, none⟩ = some (.int .i64 0) := hg2.cell 3
   have g4 : wr.cell? ⟨w.heap.size + 1, 4, none⟩ = some (.slice (some ⟨sb, 0, none⟩) 1 cp) := hg2.cell 4
   have g5 : wr.cell? ⟨w.heap.size + 1, 5, none⟩ = some (.int .i64 2) := hg2.cell 5
   have hcw : Chg NoB w wr := hc1.trans' hcr (fun y e => by have e : y = w.heap.size + 1 := e; omega)
   have hrr : Blk wr w.heap.size (ndCells 0 ⟨#[]⟩ 0 0 (.slice none 0 0)) 28 := hr1.keep hcr (fun e => by have e : w.heap.size = w.heap.size + 1 := e; omega)
   have z0 : wr.frozen? ⟨w.heap.size, 0, none⟩ = false := hrr.free 0
   have z1 : wr.frozen? ⟨w.heap.size, 1, none⟩ = false := hrr.free 1
   have z2 : wr.frozen? ⟨w.heap.size, 2, none⟩ = false := hrr.free 2
   have z3 : wr.frozen? ⟨w.heap.size, 3, none⟩ = false := hrr.free 3
   have z4 : wr.frozen? ⟨w.heap.size, 4, none⟩ = false := hrr.free 4
   have y0 : wr.cell? ⟨w.heap.size, 0, none⟩ = some (.int .i64 (0)) := hrr.cell 0
   have y1 : wr.cell? ⟨w.heap.size, 1, none⟩ = some (.string ⟨#[]⟩) := hrr.cell 1
   have y2 : wr.cell? ⟨w.heap.size, 2, none⟩ = some (.int .i64 (0)) := hrr.cell 2
   have y3 : wr.cell? ⟨w.heap.size, 3, none⟩ = some (.int .i64 (0)) := hrr.cell 3
   have y4 : wr.cell? ⟨w.heap.size, 4, none⟩ = some (.slice none 0 0) := hrr.cell 4
   have lr := hrr.lt
   have lg := hg2.lt
   go_wp2_with fail
   refine wp_region_n (fun w' => w'.cell? ⟨w.heap.size + 1, 0, none⟩ = some (.int .i64 0) ∧ w'.cell? ⟨w.heap.size + 1, 1, none⟩ = some (.string rootName) ∧ w'.cell? ⟨w.heap.size + 1, 2, none⟩ = some (.int .i64 1) ∧ w'.cell? ⟨w.heap.size + 1, 3, none⟩ = some (.int .i64 0) ∧ w'.cell? ⟨w.heap.size + 1, 4, none⟩ = some (.slice (some ⟨sb, 0, none⟩) 1 cp) ∧ w'.cell? ⟨w.heap.size + 1, 5, none⟩ = some (.int .i64 2)) [] (by kernel_rfl) ?_ (fun hSh => ?_)
   ·exact ⟨g0, g1, g2, g3, g4, g5⟩
   refine n_take (v := ?_) 0 rfl (Or.inl ⟨by rfl, ?_⟩) (by kernel_rfl) (fun _ _ _ h => h) (by assumption) ?_
   rotate_left 1
   ·(intro w' hSw; (try dsimp only at hSw); go_simp; try with_reducible rfl)
   simp only [Act.put, List.getElem_toArray, List.getElem_cons_zero, List.getElem_cons_succ, List.setIfInBounds_toArray, List.set_cons_zero, List.set_cons_succ]
   refine n_take (v := ?_) 1 rfl (Or.inl ⟨by rfl, ?_⟩) (by kernel_rfl) (fun _ _ _ h => h) (by assumption) ?_
   rotate_left 1
   ·(intro w' hSw; (try dsimp only at hSw); go_simp; try with_reducible rfl)
   simp only [Act.put, List.getElem_toArray, List.getElem_cons_zero, List.getElem_cons_succ, List.setIfInBounds_toArray, List.set_cons_zero, List.set_cons_succ]
   refine n_take (v := ?_) 2 rfl (Or.inl ⟨by rfl, ?_⟩) (by kernel_rfl) (fun _ _ _ h => h) (by assumption) ?_
   rotate_left 1
   ·(intro w' hSw; (try dsimp only at hSw); go_simp; try with_reducible rfl)
   simp only [Act.put, List.getElem_toArray, List.getElem_cons_zero, List.getElem_cons_succ, List.setIfInBounds_toArray, List.set_cons_zero, List.set_cons_succ]
   refine n_take (v := ?_) 3 rfl (Or.inl ⟨by rfl, ?_⟩) (by kernel_rfl) (fun _ _ _ h => h) (by assumption) ?_
   rotate_left 1
   ·(intro w' hSw; (try dsimp only at hSw); go_simp; try with_reducible rfl)
   simp only [Act.put, List.getElem_toArray, List.getElem_cons_zero, List.getElem_cons_succ, List.setIfInBounds_toArray, List.set_cons_zero, List.set_cons_succ]
   refine n_take (v := ?_) 4 rfl (Or.inl ⟨by rfl, ?_⟩) (by kernel_rfl) (fun _ _ _ h => h) (by assumption) ?_
   rotate_left 1
   ·(intro w' hSw; (try dsimp only at hSw); go_simp; try with_reducible rfl)
   simp only [Act.put, List.getElem_toArray, List.getElem_cons_zero, List.getElem_cons_succ, List.setIfInBounds_toArray, List.set_cons_zero, List.set_cons_succ]
   refine n_take (v := ?_) 5 rfl (Or.inl ⟨by rfl, ?_⟩) (by kernel_rfl) (fun _ _ _ h => h) (by assumption) ?_
   rotate_left 1
   ·(intro w' hSw; (try dsimp only at hSw); go_simp; try with_reducible rfl)
   simp only [Act.put, List.getElem_toArray, List.getElem_cons_zero, List.getElem_cons_succ, List.setIfInBounds_toArray, List.set_cons_zero, List.set_cons_succ]
   refine n_take (v := ?_) 6 rfl (Or.inl ⟨by rfl, ?_⟩) (by kernel_rfl) (fun _ _ _ h => h) (by assumption) ?_
   rotate_left 1
   ·(intro w' hSw; (try dsimp only at hSw); go_simp; try with_reducible rfl)
   simp only [Act.put, List.getElem_toArray, List.getElem_cons_zero, List.getElem_cons_succ, List.setIfInBounds_toArray, List.set_cons_zero, List.set_cons_succ]
   refine n_take (v := ?_) 7 rfl (Or.inl ⟨by rfl, ?_⟩) (by kernel_rfl) (fun _ _ _ h => h) (by assumption) ?_
   rotate_left 1
   ·(intro w' hSw; (try dsimp only at hSw); go_simp; try with_reducible rfl)
   simp only [Act.put, List.getElem_toArray, List.getElem_cons_zero, List.getElem_cons_succ, List.setIfInBounds_toArray, List.set_cons_zero, List.set_cons_succ]
   refine n_step 8 rfl (by kernel_rfl) ?_
   go_wp2_with fail
   have hrE := (store5 hrr (.int .i64 0) (.string rootName) (.int .i64 1) (.int .i64 0) (.slice (some ⟨sb, 0, none⟩) 1 cp)).drew
   have hgE := (store5_other (b := w.heap.size) hg2 (by omega) (.int .i64 0) (.string rootName) (.int .i64 1) (.int .i64 0) (.slice (some ⟨sb, 0, none⟩) 1 cp)).drew
   have hcE := (store5_chg wr w.heap.size (.int .i64 0) (.string rootName) (.int .i64 1) (.int .i64 0) (.slice (some ⟨sb, 0, none⟩) 1 cp)).drew
   generalize World.drew (World.setCell (World.setCell (World.setCell (World.setCell (World.setCell _ ⟨w.heap.size, 0, none⟩ (.int .i64 0)) ⟨w.heap.size, 1, none⟩ (.string rootName)) ⟨w.heap.size, 2, none⟩ (.int .i64 1)) ⟨w.heap.size, 3, none⟩ (.int .i64 0)) ⟨w.heap.size, 4, none⟩ (.slice (some ⟨sb, 0, none⟩) 1 cp)) = w9 at hrE hgE hcE ⊢
   refine ⟨fun _ => ⟨hgE.cell 0, hgE.cell 1, hgE.cell 2, hgE.cell 3, hgE.cell 4, hgE.cell 5⟩, fun hSk => ?_⟩
   replace hSk := hSk (by rfl)
   refine n_take (v := ?_) 9 rfl (Or.inl ⟨by rfl, ?_⟩) (by kernel_rfl) (fun _ _ _ h => h) (by assumption) ?_
   rotate_left 1
   ·(intro w' hSw; (try dsimp only at hSw); go_simp; try with_reducible rfl)
   simp only [Act.put, List.getElem_toArray, List.getElem_cons_zero, List.getElem_cons_succ, List.setIfInBounds_toArray, List.set_cons_zero, List.set_cons_succ]
   refine n_take (v := ?_) 10 rfl (Or.inl ⟨by rfl, ?_⟩) (by kernel_rfl) (fun _ _ _ h => h) (by assumption) ?_
   rotate_left 1
   ·(intro w' hSw; (try dsimp only at hSw); go_simp; try with_reducible rfl)
   simp only [Act.put, List.getElem_toArray, List.getElem_cons_zero, List.getElem_cons_succ, List.setIfInBounds_toArray, List.set_cons_zero, List.set_cons_succ]
   refine n_done (by kernel_rfl) ?_
   have n0 : w9.cell? ⟨w.heap.size, 0, none⟩ = some (.int .i64 (0)) := hrE.cell 0
   have n1 : w9.cell? ⟨w.heap.size, 1, none⟩ = some (.string rootName) := hrE.cell 1
   have n2 : w9.cell? ⟨w.heap.size, 2, none⟩ = some (.int .i64 (1)) := hrE.cell 2
   have n3 : w9.cell? ⟨w.heap.size, 3, none⟩ = some (.int .i64 (0)) := hrE.cell 3
   have n4 : w9.cell? ⟨w.heap.size, 4, none⟩ = some (.slice (some ⟨sb, 0, none⟩) 1 cp) := hrE.cell 4
   go_wp2_with fail
   refine bodyPost_ret (v := .tuple #[.agg #[.int .i64 0, .string rootName, .int .i64 1, .int .i64 0, .slice (some ⟨sb, 0, none⟩) 1 cp], .int .i64 2, .nilIface]) (by simp [results, Tryz.results11, go_sem, n0, n1, n2, n3, n4]) rfl ?_
   refine ⟨sb, cp, rfl, h1, (hcE.cell (p := ⟨sb, 0, none⟩) hsb (fun e => by have e : sb = w.heap.size := e; have := hc1.size; omega)).trans c0, Nat.lt_of_lt_of_le hsb hcE.size, hcw.trans' hcE (fun y e => by have e : y = w.heap.size := e; omega)⟩
end Go.Proofs.YtgcmfpcgmkkobaaGreatDoor
