/-
 evolve's edit and Replay, at one line: what the closed fact needs.
-/
import Derived.Test.YtgcmfpcgmkkobaaGreatDoorAddE
set_option linter.unusedVariables false
set_option linter.unusedSimpArgs false
namespace Go.Proofs.YtgcmfpcgmkkobaaGreatDoor
open Go.RowKit

def editB : ByteArray := ⟨#[97, 100, 100, 32, 48, 32, 114, 101, 113, 117, 105, 114, 101, 100, 32, 105, 110, 116, 32, 97, 59]⟩
def wsE : List ByteArray := [⟨#[97, 100, 100]⟩, ⟨#[48]⟩, ⟨#[114, 101, 113, 117, 105, 114, 101, 100]⟩, ⟨#[105, 110, 116]⟩, ⟨#[97, 59]⟩]
theorem count_edit : Lib.countB editB ⟨#[32]⟩ = 4 := by kernel_rfl
theorem split_edit : Lib.splitB ⟨#[32]⟩ 0 4 editB = wsE := by kernel_rfl
theorem join_edit : (⟨(joinW wsL).toArray⟩ : ByteArray) = lineB := by kernel_rfl

set_option maxHeartbeats 2000000 in
set_option maxRecDepth 100000 in
theorem edit_first (gb : Nat) (m : Int) (w : World) (E : Er → Value) (hG : Glo w.heap.size E w) (hg : Blk w gb [.int .i64 0, .string rootName, .int .i64 1, .int .i64 0, .slice none 0 0, .int .i64 1] 63) (hm : w.cell? ⟨11, 0, none⟩ = some (.int .i64 m)) (hgm : 11 ≠ gb)
  (htab : Lib.TabIs Tryz.prog w "strings.asciiSpace" .u8 Lib.asciiSpaceTab) :
  Calls Tryz.prog 29 #[.pointer (some ⟨gb, 0, none⟩), .string editB] w (RetAdd gb w) := by
 have hsp := Tryz.strings_Split editB ⟨#[32]⟩ m w (by decide) hm (by decide)
 rw [count_edit, split_edit] at hsp
 unfold editB at hsp ⊢
 go_enter Tryz.func29, Tryz.ntmps29
 go_wp2_with fail
 refine hsp.mono ?_
 rintro en w1 ⟨rfl, hww⟩
 have hc1 : Chg NoB w w1 := by
  rw [← hww.symm]
  repeat (first | exact Chg.refl _ _ | apply Chg.alloc | apply Chg.drew)
 have hb1 : Blk w1 w.heap.size (wsE.map Value.string) 9 := by rw [hww]; exact Blk.newAt rfl
 clear hsp hww
 have hz1 := hb1.lt
 have e0 : w1.cell? ⟨w.heap.size, 0, none⟩ = some (.string ⟨#[97, 100, 100]⟩) := hb1.cell 0
 have e1 : w1.cell? ⟨w.heap.size, 1, none⟩ = some (.string ⟨#[48]⟩) := hb1.cell 1
 have hg1 := hg.keep hc1 NoB.elim
 have hgl := hg.lt
 have hgne : w.heap.size ≠ gb := by omega
 go_wp2_with fail
 refine wp_region_n (fun w' => w'.cell? ⟨w.heap.size, 1, none⟩ = some (.string ⟨#[48]⟩)) [] (by kernel_rfl) ?_ (fun hSh => ?_)
 ·exact e1
 refine n_take (v := ?_) 0 rfl (Or.inl ⟨by rfl, ?_⟩) (by kernel_rfl) (fun _ _ _ h => h) (by assumption) ?_
 rotate_left 1
 ·(intro w' hSw; (try dsimp only at hSw); go_simp; try with_reducible rfl)
 simp only [Act.put, List.getElem_toArray, List.getElem_cons_zero, List.getElem_cons_succ, List.setIfInBounds_toArray, List.set_cons_zero, List.set_cons_succ]
 refine n_take (v := ?_) 1 rfl (Or.inl ⟨by rfl, ?_⟩) (by kernel_rfl) (fun _ _ _ h => h) (by assumption) ?_
 rotate_left 1
 ·(intro w' hSw; (try dsimp only at hSw); go_simp; try with_reducible rfl)
 simp only [Act.put, List.getElem_toArray, List.getElem_cons_zero, List.getElem_cons_succ, List.setIfInBounds_toArray, List.set_cons_zero, List.set_cons_succ]
 refine n_take (v := ?_) 2 rfl (Or.inl ⟨by rfl, ?_⟩) (by kernel_rfl) (fun _ _ _ h => h) (by assumption) ?_
 rotate_left 1
 ·(intro w' hSw; (try dsimp only at hSw); go_simp; try with_reducible rfl)
 simp only [Act.put, List.getElem_toArray, List.getElem_cons_zero, List.getElem_cons_succ, List.setIfInBounds_toArray, List.set_cons_zero, List.set_cons_succ]
 refine n_take (v := ?_) 3 rfl (Or.inl ⟨by rfl, ?_⟩) (by kernel_rfl) (fun _ _ _ h => h) (by assumption) ?_
 rotate_left 1
 ·(intro w' hSw; (try dsimp only at hSw); go_simp; try with_reducible rfl)
 simp only [Act.put, List.getElem_toArray, List.getElem_cons_zero, List.getElem_cons_succ, List.setIfInBounds_toArray, List.set_cons_zero, List.set_cons_succ]
 refine n_take (v := ?_) 4 rfl (Or.inl ⟨by rfl, ?_⟩) (by kernel_rfl) (fun _ _ _ h => h) (by assumption) ?_
 rotate_left 1
 ·(intro w' hSw; (try dsimp only at hSw); go_simp; try with_reducible rfl)
 simp only [Act.put, List.getElem_toArray, List.getElem_cons_zero, List.getElem_cons_succ, List.setIfInBounds_toArray, List.set_cons_zero, List.set_cons_succ]
 refine n_take (v := ?_) 5 rfl (Or.inl ⟨by rfl, ?_⟩) (by kernel_rfl) (fun _ _ _ h => h) (by assumption) ?_
 rotate_left 1
 ·(intro w' hSw; (try dsimp only at hSw); go_simp; try with_reducible rfl)
 simp only [Act.put, List.getElem_toArray, List.getElem_cons_zero, List.getElem_cons_succ, List.setIfInBounds_toArray, List.set_cons_zero, List.set_cons_succ]
 refine n_step 6 rfl (by kernel_rfl) ?_
 go_wp2_with fail
 have hjo : Calls Tryz.prog 51 #[.slice (some ⟨w.heap.size, 2, none⟩) 3 3, .string ⟨#[32]⟩] w1.drew (RetV (.string ⟨(joinW wsL).toArray⟩) w1.drew) := by
  refine join_any w.heap.size 2 3 wsL w1.drew (by decide) (fun j x hx => ?_) hz1 (by decide) (by decide) (by decide)
  have h3 : j < 3 := (List.getElem?_eq_some_iff.1 hx).1
  have h9 : w1.drew.cell? ⟨w.heap.size, 2 + j, none⟩ = some (.string x) := by
   rw [hb1.drew.cell (2 + j)]
   have h4 : j = 0 ∨ j = 1 ∨ j = 2 := by omega
   rcases h4 with rfl | rfl | rfl <;> obtain rfl := Option.some.inj hx <;> rfl
  exact h9
 refine hjo.mono ?_
 clear hjo
 rintro en w2 ⟨rfl, hc2⟩
 rw [join_edit]
 go_wp2_with fail
 have hc12 : Chg NoB w w2 := hc1.tr (Chg.trans ((Chg.refl NoB w1).drew) hc2 (fun _ e => NoB.elim e))
 have hb2 : Blk w2 w.heap.size (wsE.map Value.string) 9 := (hb1.drew).keep hc2 NoB.elim
 have hg2 := hg.keep hc12 NoB.elim
 refine ⟨fun _ => hb2.cell 1, fun hSk => ?_⟩
 replace hSk := hSk (by rfl)
 refine n_step 7 rfl (by kernel_rfl) ?_
 go_wp2_with fail
 unfold lineB
 refine (add_first gb m w2 E ((hG.keep0 hc12).up hc12.size) hg2 ((hc12.cell (lt_of_cell hm) NoB.elim).trans hm) hgm (tab_ascii htab hc12)).mono ?_
 rintro en w3 ⟨rfl, hl3, hc3⟩
 go_wp2_with fail
 refine ⟨fun _ => (hb2.keep hc3 (fun e => hgne e)).cell 1, fun hSk3 => ?_⟩
 replace hSk3 := hSk3 (by rfl)
 refine n_step 8 rfl (by kernel_rfl) ?_
 go_wp2_with fail
 refine ⟨fun _ => hSk3, fun _ => ?_⟩
 refine n_done (by kernel_rfl) ?_
 go_wp2_with fail
 go_ret
 obtain ⟨sb, cp, sa, sc, h1, h2, h3⟩ := hl3
 refine ⟨rfl, ⟨sb, cp, sa, sc, h1, by have := hc12.size; omega, h3⟩, ?_⟩
 exact (hc12.mono (D := OneB gb) (fun _ _ e => NoB.elim e)).trans hc3 (fun _ e => .inl e)
end Go.Proofs.YtgcmfpcgmkkobaaGreatDoor
