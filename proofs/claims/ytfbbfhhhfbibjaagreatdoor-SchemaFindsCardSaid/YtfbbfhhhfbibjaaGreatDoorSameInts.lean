/-
  shredcolref1.SameInts, where it is to say yes.
-/
import Derived.Test.YtfbbfhhhfbibjaaGreatDoorInts
import Derived.Test.YtfbbfhhhfbibjaaGreatDoorValid2
namespace Go.Proofs.YtfbbfhhhfbibjaaGreatDoor
open Go.RowKit

def SiRel (n : Nat) (w : World) (vi : Value) (wr : World) : Prop := ∃ j : Nat, j ≤ n ∧ vi = .int .i64 (j : Nat) ∧ Chg NoB w wr

set_option maxHeartbeats 1000000 in
theorem sameInts_yes (l : List Int) (a b : Value) (w : World) (S T : Nat → Prop) (ha : Reads w S (.list 1 (l.map intDt)) [a]) (hb : Reads w T (.list 1 (l.map intDt)) [b]) :
    Calls Tryz.prog 27 #[a, b] w (RetV (.bool true) w) := by
  obtain ⟨aa, ac, rfl, ha1, ha2, ha3⟩ := list_cells (f := Value.int .i64) (show Reads w S (.list 1 (l.map fun x => .lit (.int .i64 x))) [a] from ha)
  obtain ⟨ba, bc, rfl, hb1, hb2, hb3⟩ := list_cells (f := Value.int .i64) (show Reads w T (.list 1 (l.map fun x => .lit (.int .i64 x))) [b] from hb)
  have h63 : l.length ≤ 9223372036854775807 := by unfold maxLen at ha2; omega
  have Ha3 := Lib.hid ha3
  have Hb3 := Lib.hid hb3
  clear ha3 hb3 ha hb
  go_enter Tryz.func27, Tryz.ntmps27
  go_wp2_with fail
  go_loopw [5] (fun vi wr => SiRel l.length w vi wr) (fun vi _ => l.length - (intOf vi).toNat)
  case atStart => exact ⟨0, Nat.zero_le _, rfl, Chg.refl _ _⟩
  case round =>
    obtain ⟨j, hj, rfl, hcr⟩ := hrel
    by_cases hlt : j < l.length
    · obtain ⟨ab, aoff, rfl, _, hab, hac⟩ := Ha3.out (by omega)
      obtain ⟨bb, boff, rfl, _, hbb, hbc⟩ := Hb3.out (by omega)
      have e1 := (hcr.cell (p := ⟨ab, aoff + j, none⟩) hab NoB.elim).trans (hac j l[j] (by simp [hlt]))
      have e2 := (hcr.cell (p := ⟨bb, boff + j, none⟩) hbb NoB.elim).trans (hbc j l[j] (by simp [hlt]))
      generalize l[j] = x at e1 e2
      clear hac hbc
      have hx : (x != x) = false := by simp
      go_wp2_with fail
      refine wp_region_n (fun w' => w'.cell? ⟨ab, aoff + j, none⟩ = some (.int .i64 x) ∧ w'.cell? ⟨bb, boff + j, none⟩ = some (.int .i64 x)) [] (by kernel_rfl) ?_ (fun hSh => ?_)
      · exact ⟨e1, e2⟩
      refine n_take (v := ?_) 0 rfl (Or.inl ⟨by rfl, ?_⟩) (by kernel_rfl) (fun _ _ _ h => h) (by assumption) ?_
      rotate_left 1
      · (intro w' hSw; (try dsimp only at hSw); go_simp; try with_reducible rfl)
      simp only [Act.put, List.getElem_toArray, List.getElem_cons_zero, List.setIfInBounds_toArray, List.set_cons_zero, List.set_cons_succ]
      refine n_take (v := ?_) 1 rfl (Or.inl ⟨by rfl, ?_⟩) (by kernel_rfl) (fun _ _ _ h => h) (by assumption) ?_
      rotate_left 1
      · (intro w' hSw; (try dsimp only at hSw); go_simp; try with_reducible rfl)
      simp only [Act.put, List.getElem_toArray, List.getElem_cons_zero, List.getElem_cons_succ, List.setIfInBounds_toArray, List.set_cons_zero, List.set_cons_succ]
      refine n_take (v := ?_) 2 rfl (Or.inl ⟨by rfl, ?_⟩) (by kernel_rfl) (fun _ _ _ h => h) (by assumption) ?_
      rotate_left 1
      · (intro w' hSw; (try dsimp only at hSw); go_simp; try with_reducible rfl)
      simp only [Act.put, List.getElem_toArray, List.getElem_cons_zero, List.getElem_cons_succ, List.setIfInBounds_toArray, List.set_cons_zero, List.set_cons_succ]
      refine n_take (v := ?_) 3 rfl (Or.inl ⟨by rfl, ?_⟩) (by kernel_rfl) (fun _ _ _ h => h) (by assumption) ?_
      rotate_left 1
      · (intro w' hSw; (try dsimp only at hSw); go_simp; try with_reducible rfl)
      simp only [Act.put, List.getElem_toArray, List.getElem_cons_zero, List.getElem_cons_succ, List.setIfInBounds_toArray, List.set_cons_zero, List.set_cons_succ]
      refine n_take (v := ?_) 4 rfl (Or.inl ⟨by rfl, ?_⟩) (by kernel_rfl) (fun _ _ _ h => h) (by assumption) ?_
      rotate_left 1
      · (intro w' hSw; (try dsimp only at hSw); go_simp; try with_reducible rfl)
      simp only [Act.put, List.getElem_toArray, List.getElem_cons_zero, List.getElem_cons_succ, List.setIfInBounds_toArray, List.set_cons_zero, List.set_cons_succ]
      refine n_take (v := ?_) 5 rfl (Or.inl ⟨by rfl, ?_⟩) (by kernel_rfl) (fun _ _ _ h => h) (by assumption) ?_
      rotate_left 1
      · (intro w' hSw; (try dsimp only at hSw); go_simp; try with_reducible rfl)
      simp only [Act.put, List.getElem_toArray, List.getElem_cons_zero, List.getElem_cons_succ, List.setIfInBounds_toArray, List.set_cons_zero, List.set_cons_succ]
      refine n_take (v := ?_) 6 rfl (Or.inl ⟨by rfl, ?_⟩) (by kernel_rfl) (fun _ _ _ h => h) (by assumption) ?_
      rotate_left 1
      · (intro w' hSw; (try dsimp only at hSw); go_simp; try with_reducible rfl)
      simp only [Act.put, List.getElem_toArray, List.getElem_cons_zero, List.getElem_cons_succ, List.setIfInBounds_toArray, List.set_cons_zero, List.set_cons_succ]
      refine n_take (v := ?_) 7 rfl (Or.inl ⟨by rfl, ?_⟩) (by kernel_rfl) (fun _ _ _ h => h) (by assumption) ?_
      rotate_left 1
      · (intro w' hSw; (try dsimp only at hSw); go_simp; try with_reducible rfl)
      simp only [Act.put, List.getElem_toArray, List.getElem_cons_zero, List.getElem_cons_succ, List.setIfInBounds_toArray, List.set_cons_zero, List.set_cons_succ]
      refine n_take (v := ?_) 8 rfl (Or.inl ⟨by rfl, ?_⟩) (by kernel_rfl) (fun _ _ _ h => h) (by assumption) ?_
      rotate_left 1
      · (intro w' hSw; (try dsimp only at hSw); go_simp; (try simp only [hx]); try with_reducible rfl)
      simp only [Act.put, List.getElem_toArray, List.getElem_cons_zero, List.getElem_cons_succ, List.setIfInBounds_toArray, List.set_cons_zero, List.set_cons_succ]
      refine n_done (by kernel_rfl) ?_
      go_wp2_with fail
      exact ⟨⟨j + 1, hlt, by go_num, hcr.drew⟩, by simp [intOf]; omega⟩
    · have hjl : j = l.length := by omega
      subst hjl
      go_wp2_with fail
      go_ret
      exact ⟨rfl, hcr⟩
end Go.Proofs.YtfbbfhhhfbibjaaGreatDoor
