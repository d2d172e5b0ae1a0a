/-
 The closure of evolve's node, at a leaf: its number is moved.
-/
import Derived.Test.YtgcmfpcgmkkobaaGreatDoorNumberE
set_option linter.unusedVariables false
set_option linter.unusedSimpArgs false
namespace Go.Proofs.YtgcmfpcgmkkobaaGreatDoor
open Go.RowKit

def RetG (nb : Nat) (cs : List Value) (w : World) (en : Ending) (w' : World) : Prop := en = .returned (.tuple #[]) ∧ Blk w' nb cs 28 ∧ Chg (OneB nb) w w'
set_option maxHeartbeats 1000000 in
theorem give_leaf (nb gb bx bf : Nat) (sa : Option Addr) (sc : Nat) (i nx r k : Int) (nm : ByteArray) (g0 g1 g2 g3 g4 : Value) (w : World) (hn : Blk w nb (ndCells i nm r k (.slice sa 0 sc)) 28) (hg : Blk w gb [g0, g1, g2, g3, g4, .int .i64 nx] 63) (hx : Blk w bx [.pointer (some ⟨gb, 0, none⟩)] 61) (hi : 0 ≤ i ∧ i ≤ 1000000) (hnx : 0 ≤ nx ∧ nx ≤ 1000000) :
  Calls Tryz.prog 121 #[.pointer (some ⟨nb, 0, none⟩), .pointer (some ⟨bx, 0, none⟩), .pointer (some ⟨bf, 0, none⟩)] w (RetG nb (ndCells (i + (nx - 1)) nm r k (.slice sa 0 sc)) w) := by
 have c0 : w.cell? ⟨nb, 0, none⟩ = some (.int .i64 i) := hn.cell 0
 have c4 : w.cell? ⟨nb, 4, none⟩ = some (.slice sa 0 sc) := hn.cell 4
 have f0 : w.frozen? ⟨nb, 0, none⟩ = false := hn.free 0
 have d5 : w.cell? ⟨gb, 5, none⟩ = some (.int .i64 nx) := hg.cell 5
 have x0 : w.cell? ⟨bx, 0, none⟩ = some (.pointer (some ⟨gb, 0, none⟩)) := hx.cell 0
 go_enter Tryz.func121, Tryz.ntmps121
 go_wp2_with fail
 refine wp_region_n (fun w' => w'.cell? ⟨nb, 0, none⟩ = some (.int .i64 i) ∧ w'.cell? ⟨gb, 5, none⟩ = some (.int .i64 nx) ∧ w'.cell? ⟨bx, 0, none⟩ = some (.pointer (some ⟨gb, 0, none⟩))) [10, 11, 12] (by kernel_rfl) ?_ (fun hSh => ?_)
 ·exact ⟨c0, d5, x0⟩
 refine n_take (v := ?_) 0 rfl (Or.inl ⟨by rfl, ?_⟩) (by kernel_rfl) (fun _ _ _ h => h) (by assumption) ?_
 rotate_left 1
 ·(intro w' hSw; (try dsimp only at hSw); go_simp; try with_reducible rfl)
 simp only [Act.put, List.getElem_toArray, List.getElem_cons_zero, List.getElem_cons_succ, List.setIfInBounds_toArray, List.set_cons_zero, List.set_cons_succ]
 refine n_take (v := ?_) 1 rfl (Or.inl ⟨by rfl, ?_⟩) (by kernel_rfl) (fun _ _ _ h => h) (by assumption) ?_
 rotate_left 1
 ·(intro w' hSw; (try dsimp only at hSw); go_simp; try with_reducible rfl)
 simp only [Act.put, List.getElem_toArray, List.getElem_cons_zero, List.getElem_cons_succ, List.setIfInBounds_toArray, List.set_cons_zero, List.set_cons_succ]
 refine n_take (v := ?_) 2 rfl (Or.inl ⟨by rfl, ?_⟩) (by kernel_rfl) (fun _ _ _ h => h) (by assumption) ?_
 rotate_left 1
 ·(intro w' hSw; (try dsimp only at hSw); go_simp; try with_reducible rfl)
 simp only [Act.put, List.getElem_toArray, List.getElem_cons_zero, List.getElem_cons_succ, List.setIfInBounds_toArray, List.set_cons_zero, List.set_cons_succ]
 refine n_take (v := ?_) 3 rfl (Or.inl ⟨by rfl, ?_⟩) (by kernel_rfl) (fun _ _ _ h => h) (by assumption) ?_
 rotate_left 1
 ·(intro w' hSw; (try dsimp only at hSw); go_simp; try with_reducible rfl)
 simp only [Act.put, List.getElem_toArray, List.getElem_cons_zero, List.getElem_cons_succ, List.setIfInBounds_toArray, List.set_cons_zero, List.set_cons_succ]
 refine n_take (v := ?_) 4 rfl (Or.inl ⟨by rfl, ?_⟩) (by kernel_rfl) (fun _ _ _ h => h) (by assumption) ?_
 rotate_left 1
 ·(intro w' hSw; (try dsimp only at hSw); go_simp; try with_reducible rfl)
 simp only [Act.put, List.getElem_toArray, List.getElem_cons_zero, List.getElem_cons_succ, List.setIfInBounds_toArray, List.set_cons_zero, List.set_cons_succ]
 refine n_take (v := ?_) 5 rfl (Or.inl ⟨by rfl, ?_⟩) (by kernel_rfl) (fun _ _ _ h => h) (by assumption) ?_
 rotate_left 1
 ·(intro w' hSw; (try dsimp only at hSw); go_simp; try with_reducible rfl)
 simp only [Act.put, List.getElem_toArray, List.getElem_cons_zero, List.getElem_cons_succ, List.setIfInBounds_toArray, List.set_cons_zero, List.set_cons_succ]
 refine n_take (v := ?_) 6 rfl (Or.inl ⟨by rfl, ?_⟩) (by kernel_rfl) (fun _ _ _ h => h) (by assumption) ?_
 rotate_left 1
 ·(intro w' hSw; (try dsimp only at hSw); go_simp; try with_reducible rfl)
 simp only [Act.put, List.getElem_toArray, List.getElem_cons_zero, List.getElem_cons_succ, List.setIfInBounds_toArray, List.set_cons_zero, List.set_cons_succ]
 refine n_take (v := ?_) 7 rfl (Or.inl ⟨by rfl, ?_⟩) (by kernel_rfl) (fun _ _ _ h => h) (by assumption) ?_
 rotate_left 1
 ·(intro w' hSw; (try dsimp only at hSw); go_simp; try with_reducible rfl)
 simp only [Act.put, List.getElem_toArray, List.getElem_cons_zero, List.getElem_cons_succ, List.setIfInBounds_toArray, List.set_cons_zero, List.set_cons_succ]
 refine n_take (v := ?_) 8 rfl (Or.inl ⟨by rfl, ?_⟩) (by kernel_rfl) (fun _ _ _ h => h) (by assumption) ?_
 rotate_left 1
 ·(intro w' hSw; (try dsimp only at hSw); go_simp; try with_reducible rfl)
 simp only [Act.put, List.getElem_toArray, List.getElem_cons_zero, List.getElem_cons_succ, List.setIfInBounds_toArray, List.set_cons_zero, List.set_cons_succ]
 refine n_take (v := ?_) 9 rfl (Or.inl ⟨by rfl, ?_⟩) (by kernel_rfl) (fun _ _ _ h => h) (by assumption) ?_
 rotate_left 1
 ·(intro w' hSw; (try dsimp only at hSw); go_simp; try with_reducible rfl)
 simp only [Act.put, List.getElem_toArray, List.getElem_cons_zero, List.getElem_cons_succ, List.setIfInBounds_toArray, List.set_cons_zero, List.set_cons_succ]
 refine n_step 10 rfl (by kernel_rfl) ?_
 go_wp2_with fail
 refine ⟨fun hx => absurd hx (by decide), fun _ => ?_⟩
 refine n_step 11 rfl (by kernel_rfl) ?_
 go_wp2_with fail
 refine ⟨fun hx => absurd hx (by decide), fun _ => ?_⟩
 refine n_step 12 rfl (by kernel_rfl) ?_
 go_wp2_with fail
 refine ⟨fun hx => absurd hx (by decide), fun _ => ?_⟩
 refine n_done (by kernel_rfl) ?_
 have hb9 := hn.set 0 (.int .i64 (i + (nx - 1)))
 have hc9 : Chg (OneB nb) w (w.setCell ⟨nb, 0, none⟩ (.int .i64 (i + (nx - 1)))) := (Chg.refl (OneB nb) w).setCell (p := ⟨nb, 0, none⟩) (.inl rfl) _
 have e4 : (w.setCell ⟨nb, 0, none⟩ (.int .i64 (i + (nx - 1)))).cell? ⟨nb, 4, none⟩ = some (.slice sa 0 sc) := hb9.cell 4
 generalize w.setCell ⟨nb, 0, none⟩ (.int .i64 (i + (nx - 1))) = w9 at hb9 hc9 e4 ⊢
 go_wp2_with fail
 go_loop [22] (fun v => v = .int .i64 0) (fun _ => 0)
 case atStart => rfl
 case round =>
  obtain rfl := hrel
  go_wp2_with fail
  refine bodyPost_ret (v := .tuple #[]) (by simp [results, Tryz.results121, go_sem]) rfl ?_
  exact ⟨rfl, hb9.drew, hc9.drew⟩
end Go.Proofs.YtgcmfpcgmkkobaaGreatDoor
