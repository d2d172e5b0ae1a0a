/-
  EvolveSame: the walk, by the contracts.
-/
import Derived.Test.YtgcmfpcgmkkobaaGreatDoorFirst
import Derived.Test.YtgcmfpcgmkkobaaGreatDoorPackJ
import Derived.Test.YtgcmfpcgmkkobaaGreatDoorPackA
import Derived.Test.YtgcmfpcgmkkobaaGreatDoorPackF
import Derived.Test.YtgcmfpcgmkkobaaGreatDoorSame
import Derived.Test.YtgcmfpcgmkkobaaGreatDoorSameOf
set_option linter.unusedVariables false
set_option linter.unusedSimpArgs false
namespace Go.Proofs.YtgcmfpcgmkkobaaGreatDoor
open Go.RowKit

def tame4B (nd : Nd) : Bool := decide ((flatOf nd).length ≤ 100)
set_option maxHeartbeats 2000000 in
theorem tame4_any (nd : Nd) (w : World) (S : Nat → Prop) (cs : List Value) (hr : Reads w S nd.dt cs) (hok : nd.ok) :
    Calls Tryz.prog 13 #[.agg cs.toArray] w (RetV (.bool (tame4B nd)) w) := by
  obtain ⟨i, n, r, k, s⟩ := nd
  obtain ⟨sv, rfl, hs⟩ := reads_nd.1 hr
  obtain ⟨sa, cap, rfl, hlen, hcap, hel⟩ := reads_subs hs
  go_enter Tryz.func13, Tryz.ntmps13
  go_wp2_with fail
  generalize hw1 : w.alloc _ = w1
  have hc1 : Chg NoB w w1 := by
    rw [← hw1]
    repeat (first | exact Chg.refl _ _ | apply Chg.alloc | apply Chg.drew)
  clear hw1
  refine (Flat_any (.mk i n r k s) w1 S _ (hr.chg0 hc1) hok).mono ?_
  rintro e w2 ⟨ao, c2, rfl, hrl, hc⟩
  have hc2 : Chg NoB w w2 := hc1.tr hc
  have ht : tame4B (.mk i n r k s) = decide (((flatOf (.mk i n r k s)).length : Int) ≤ 100) := by unfold tame4B; congr 1; exact propext ⟨fun h => by omega, fun h => by omega⟩
  have Ht := Lib.hid ht
  clear ht hc
  generalize flatOf (.mk i n r k s) = l at Ht ⊢
  go_wp2_with fail
  go_ret
  rw [Ht.out]
  exact ⟨rfl, hc2⟩

set_option maxHeartbeats 2000000 in
set_option maxRecDepth 100000 in
theorem sames_any (a b : Nd) (m : Int) (w : World) (S : Nat → Prop) (ca cb : List Value) (E : Er → Value) (hG : Glo w.heap.size E w) (hm : w.cell? ⟨11, 0, none⟩ = some (.int .i64 m))
    (htab : Lib.TabIs Tryz.prog w "strings.asciiSpace" .u8 Lib.asciiSpaceTab) (hoka : a.ok) (hokb : b.ok) (hra : Reads w S a.dt ca) (hrb : Reads w S b.dt cb) (hSB : ∀ x, S x → x < w.heap.size) :
    Calls Tryz.prog 4 #[.agg ca.toArray, .agg cb.toArray] w (RetV (.bool true) w) := by
  have hml := lt_of_cell hm
  have hra' := hra
  have hrb' := hrb
  have hoka' := hoka
  have hokb' := hokb
  obtain ⟨i, nm, r, k, s⟩ := a
  obtain ⟨i', nm', r', k', s'⟩ := b
  obtain ⟨va, rfl, hsa⟩ := reads_nd.1 hra
  obtain ⟨vb, rfl, hsb⟩ := reads_nd.1 hrb
  obtain ⟨aa, acap, rfl, hal, hac, _⟩ := reads_subs hsa
  obtain ⟨ba, bcap, rfl, hbl, hbc, _⟩ := reads_subs hsb
  clear hsa hsb hra hrb
  go_enter Tryz.func4, Tryz.ntmps4
  go_wp2_with fail
  generalize hw1 : World.alloc _ _ = w1
  have hc1 : Chg NoB w w1 := by
    rw [← hw1]
    repeat (first | exact Chg.refl _ _ | apply Chg.alloc | apply Chg.drew)
  have hx1 : Blk w1 (w.heap.size) (ndCells i nm r k (.slice aa s.length acap)) 28 := by
    rw [← hw1]
    repeat (first | exact Blk.newAt (by first | rfl | (simp; done) | (simp; omega)) | apply Blk.alloc | apply Blk.drew)
  have hy1 : Blk w1 (w.heap.size + 1) (ndCells i' nm' r' k' (.slice ba s'.length bcap)) 28 := by
    rw [← hw1]
    repeat (first | exact Blk.newAt (by first | rfl | (simp; done) | (simp; omega)) | apply Blk.alloc | apply Blk.drew)
  clear hw1
  refine (first_yes m w1 E ((hG.keep0 hc1).up hc1.size) ((hc1.cell hml NoB.elim).trans hm) (tab_ascii htab hc1)).mono ?_
  rintro en w2 ⟨rfl, hc2⟩
  have hc02 := hc1.tr hc2
  have hx2 := hx1.keep hc2 NoB.elim
  have hy2 := hy1.keep hc2 NoB.elim
  have x0 : w2.cell? ⟨w.heap.size, 0, none⟩ = some (.int .i64 (i)) := hx2.cell 0
  have x1 : w2.cell? ⟨w.heap.size, 1, none⟩ = some (.string nm) := hx2.cell 1
  have x2 : w2.cell? ⟨w.heap.size, 2, none⟩ = some (.int .i64 (r)) := hx2.cell 2
  have x3 : w2.cell? ⟨w.heap.size, 3, none⟩ = some (.int .i64 (k)) := hx2.cell 3
  have x4 : w2.cell? ⟨w.heap.size, 4, none⟩ = some (.slice aa s.length acap) := hx2.cell 4
  have y0 : w2.cell? ⟨w.heap.size + 1, 0, none⟩ = some (.int .i64 (i')) := hy2.cell 0
  have y1 : w2.cell? ⟨w.heap.size + 1, 1, none⟩ = some (.string nm') := hy2.cell 1
  have y2 : w2.cell? ⟨w.heap.size + 1, 2, none⟩ = some (.int .i64 (r')) := hy2.cell 2
  have y3 : w2.cell? ⟨w.heap.size + 1, 3, none⟩ = some (.int .i64 (k')) := hy2.cell 3
  have y4 : w2.cell? ⟨w.heap.size + 1, 4, none⟩ = some (.slice ba s'.length bcap) := hy2.cell 4
  go_wp2_with fail
  refine (tame4_any _ w2 S _ (hra'.chg0 hc02) hoka').mono ?_
  rintro en w3 ⟨rfl, hc3⟩
  have hc03 := hc02.tr hc3
  have hx3 := hx2.keep hc3 NoB.elim
  have hy3 := hy2.keep hc3 NoB.elim
  clear x0 x1 x2 x3 x4 y0 y1 y2 y3 y4
  have x0 : w3.cell? ⟨w.heap.size, 0, none⟩ = some (.int .i64 (i)) := hx3.cell 0
  have x1 : w3.cell? ⟨w.heap.size, 1, none⟩ = some (.string nm) := hx3.cell 1
  have x2 : w3.cell? ⟨w.heap.size, 2, none⟩ = some (.int .i64 (r)) := hx3.cell 2
  have x3 : w3.cell? ⟨w.heap.size, 3, none⟩ = some (.int .i64 (k)) := hx3.cell 3
  have x4 : w3.cell? ⟨w.heap.size, 4, none⟩ = some (.slice aa s.length acap) := hx3.cell 4
  have y0 : w3.cell? ⟨w.heap.size + 1, 0, none⟩ = some (.int .i64 (i')) := hy3.cell 0
  have y1 : w3.cell? ⟨w.heap.size + 1, 1, none⟩ = some (.string nm') := hy3.cell 1
  have y2 : w3.cell? ⟨w.heap.size + 1, 2, none⟩ = some (.int .i64 (r')) := hy3.cell 2
  have y3 : w3.cell? ⟨w.heap.size + 1, 3, none⟩ = some (.int .i64 (k')) := hy3.cell 3
  have y4 : w3.cell? ⟨w.heap.size + 1, 4, none⟩ = some (.slice ba s'.length bcap) := hy3.cell 4
  cases hta : tame4B (.mk i nm r k s) with
  | false =>
    clear hta
    go_wp2_with fail
    go_ret
    exact ⟨rfl, hc03⟩
  | true =>
  clear hta
  go_wp2_with fail
  refine (tame4_any _ w3 S _ (hrb'.chg0 hc03) hokb').mono ?_
  rintro en w4 ⟨rfl, hc4⟩
  have hc04 := hc03.tr hc4
  have hx4 := hx3.keep hc4 NoB.elim
  have hy4 := hy3.keep hc4 NoB.elim
  clear x0 x1 x2 x3 x4 y0 y1 y2 y3 y4
  have x0 : w4.cell? ⟨w.heap.size, 0, none⟩ = some (.int .i64 (i)) := hx4.cell 0
  have x1 : w4.cell? ⟨w.heap.size, 1, none⟩ = some (.string nm) := hx4.cell 1
  have x2 : w4.cell? ⟨w.heap.size, 2, none⟩ = some (.int .i64 (r)) := hx4.cell 2
  have x3 : w4.cell? ⟨w.heap.size, 3, none⟩ = some (.int .i64 (k)) := hx4.cell 3
  have x4 : w4.cell? ⟨w.heap.size, 4, none⟩ = some (.slice aa s.length acap) := hx4.cell 4
  have y0 : w4.cell? ⟨w.heap.size + 1, 0, none⟩ = some (.int .i64 (i')) := hy4.cell 0
  have y1 : w4.cell? ⟨w.heap.size + 1, 1, none⟩ = some (.string nm') := hy4.cell 1
  have y2 : w4.cell? ⟨w.heap.size + 1, 2, none⟩ = some (.int .i64 (r')) := hy4.cell 2
  have y3 : w4.cell? ⟨w.heap.size + 1, 3, none⟩ = some (.int .i64 (k')) := hy4.cell 3
  have y4 : w4.cell? ⟨w.heap.size + 1, 4, none⟩ = some (.slice ba s'.length bcap) := hy4.cell 4
  cases htb : tame4B (.mk i' nm' r' k' s') with
  | false =>
    clear htb
    go_wp2_with fail
    go_ret
    exact ⟨rfl, hc04⟩
  | true =>
  clear htb
  go_wp2_with fail
  refine (err_any _ w4 S _ (hra'.chg0 hc04) hoka').mono ?_
  rintro en w5 ⟨rfl, hc5⟩
  have hc05 := hc04.tr hc5
  have hx5 := hx4.keep hc5 NoB.elim
  have hy5 := hy4.keep hc5 NoB.elim
  clear x0 x1 x2 x3 x4 y0 y1 y2 y3 y4
  have x0 : w5.cell? ⟨w.heap.size, 0, none⟩ = some (.int .i64 (i)) := hx5.cell 0
  have x1 : w5.cell? ⟨w.heap.size, 1, none⟩ = some (.string nm) := hx5.cell 1
  have x2 : w5.cell? ⟨w.heap.size, 2, none⟩ = some (.int .i64 (r)) := hx5.cell 2
  have x3 : w5.cell? ⟨w.heap.size, 3, none⟩ = some (.int .i64 (k)) := hx5.cell 3
  have x4 : w5.cell? ⟨w.heap.size, 4, none⟩ = some (.slice aa s.length acap) := hx5.cell 4
  have y0 : w5.cell? ⟨w.heap.size + 1, 0, none⟩ = some (.int .i64 (i')) := hy5.cell 0
  have y1 : w5.cell? ⟨w.heap.size + 1, 1, none⟩ = some (.string nm') := hy5.cell 1
  have y2 : w5.cell? ⟨w.heap.size + 1, 2, none⟩ = some (.int .i64 (r')) := hy5.cell 2
  have y3 : w5.cell? ⟨w.heap.size + 1, 3, none⟩ = some (.int .i64 (k')) := hy5.cell 3
  have y4 : w5.cell? ⟨w.heap.size + 1, 4, none⟩ = some (.slice ba s'.length bcap) := hy5.cell 4
  cases hva : validF (.mk i nm r k s) with
  | some e =>
    have hpos : 0 < errNum (some e) := by cases e <;> decide
    clear hva
    generalize errNum (some e) = ne at *
    go_wp2_with fail
    go_ret
    exact ⟨rfl, hc05⟩
  | none =>
  have Hva := Lib.hid hva
  clear hva
  rw [show errNum none = 0 from rfl]
  go_wp2_with fail
  refine (err_any _ w5 S _ (hrb'.chg0 hc05) hokb').mono ?_
  rintro en w6 ⟨rfl, hc6⟩
  have hc06 := hc05.tr hc6
  have hx6 := hx5.keep hc6 NoB.elim
  have hy6 := hy5.keep hc6 NoB.elim
  clear x0 x1 x2 x3 x4 y0 y1 y2 y3 y4
  have x0 : w6.cell? ⟨w.heap.size, 0, none⟩ = some (.int .i64 (i)) := hx6.cell 0
  have x1 : w6.cell? ⟨w.heap.size, 1, none⟩ = some (.string nm) := hx6.cell 1
  have x2 : w6.cell? ⟨w.heap.size, 2, none⟩ = some (.int .i64 (r)) := hx6.cell 2
  have x3 : w6.cell? ⟨w.heap.size, 3, none⟩ = some (.int .i64 (k)) := hx6.cell 3
  have x4 : w6.cell? ⟨w.heap.size, 4, none⟩ = some (.slice aa s.length acap) := hx6.cell 4
  have y0 : w6.cell? ⟨w.heap.size + 1, 0, none⟩ = some (.int .i64 (i')) := hy6.cell 0
  have y1 : w6.cell? ⟨w.heap.size + 1, 1, none⟩ = some (.string nm') := hy6.cell 1
  have y2 : w6.cell? ⟨w.heap.size + 1, 2, none⟩ = some (.int .i64 (r')) := hy6.cell 2
  have y3 : w6.cell? ⟨w.heap.size + 1, 3, none⟩ = some (.int .i64 (k')) := hy6.cell 3
  have y4 : w6.cell? ⟨w.heap.size + 1, 4, none⟩ = some (.slice ba s'.length bcap) := hy6.cell 4
  cases hvb : validF (.mk i' nm' r' k' s') with
  | some e =>
    have hpos : 0 < errNum (some e) := by cases e <;> decide
    clear hvb
    generalize errNum (some e) = ne at *
    go_wp2_with fail
    go_ret
    exact ⟨rfl, hc06⟩
  | none =>
  have Hvb := Lib.hid hvb
  clear hvb
  rw [show errNum none = 0 from rfl]
  go_wp2_with fail
  refine wp_region_n (fun w' => w'.cell? ⟨w.heap.size, 0, none⟩ = some (.int .i64 i) ∧ w'.cell? ⟨w.heap.size, 1, none⟩ = some (.string nm) ∧ w'.cell? ⟨w.heap.size, 2, none⟩ = some (.int .i64 r) ∧ w'.cell? ⟨w.heap.size, 3, none⟩ = some (.int .i64 k) ∧ w'.cell? ⟨w.heap.size, 4, none⟩ = some (.slice aa s.length acap) ∧ w'.cell? ⟨w.heap.size + 1, 0, none⟩ = some (.int .i64 i') ∧ w'.cell? ⟨w.heap.size + 1, 1, none⟩ = some (.string nm') ∧ w'.cell? ⟨w.heap.size + 1, 2, none⟩ = some (.int .i64 r') ∧ w'.cell? ⟨w.heap.size + 1, 3, none⟩ = some (.int .i64 k') ∧ w'.cell? ⟨w.heap.size + 1, 4, none⟩ = some (.slice ba s'.length bcap)) [] (by kernel_rfl) ?_ (fun hSh => ?_)
  · exact ⟨hx6.cell 0, hx6.cell 1, hx6.cell 2, hx6.cell 3, hx6.cell 4, hy6.cell 0, hy6.cell 1, hy6.cell 2, hy6.cell 3, hy6.cell 4⟩
  refine n_take (v := ?_) 0 rfl (Or.inl ⟨by rfl, ?_⟩) (by kernel_rfl) (fun _ _ _ h => h) (by assumption) ?_
  rotate_left 1
  · (intro w' hSw; (try dsimp only at hSw); go_simp; try with_reducible rfl)
  simp only [Act.put, List.getElem_toArray, List.getElem_cons_zero, List.getElem_cons_succ, List.setIfInBounds_toArray, List.set_cons_zero, List.set_cons_succ]
  refine n_take (v := ?_) 2 rfl (Or.inl ⟨by rfl, ?_⟩) (by kernel_rfl) (fun _ _ _ h => h) (by assumption) ?_
  rotate_left 1
  · (intro w' hSw; (try dsimp only at hSw); go_simp; try with_reducible rfl)
  simp only [Act.put, List.getElem_toArray, List.getElem_cons_zero, List.getElem_cons_succ, List.setIfInBounds_toArray, List.set_cons_zero, List.set_cons_succ]
  refine n_take (v := ?_) 5 rfl (Or.inl ⟨by rfl, ?_⟩) (by kernel_rfl) (fun _ _ _ h => h) (by assumption) ?_
  rotate_left 1
  · (intro w' hSw; (try dsimp only at hSw); go_simp; try with_reducible rfl)
  simp only [Act.put, List.getElem_toArray, List.getElem_cons_zero, List.getElem_cons_succ, List.setIfInBounds_toArray, List.set_cons_zero, List.set_cons_succ]
  refine n_take (v := ?_) 6 rfl (Or.inl ⟨by rfl, ?_⟩) (by kernel_rfl) (fun _ _ _ h => h) (by assumption) ?_
  rotate_left 1
  · (intro w' hSw; (try dsimp only at hSw); go_simp; try with_reducible rfl)
  simp only [Act.put, List.getElem_toArray, List.getElem_cons_zero, List.getElem_cons_succ, List.setIfInBounds_toArray, List.set_cons_zero, List.set_cons_succ]
  refine n_step 1 rfl (by kernel_rfl) ?_
  go_wp2_with fail
  refine (ownNode_any _ _ w6.drew S _ (Nat.le_refl _) (hra'.chg0 hc06.drew) hoka').mono ?_
  rintro en w7 ⟨csa, rfl, hrA, hc7⟩
  obtain ⟨va, rfl, hsA⟩ := reads_nd.1 hrA
  obtain ⟨a1, ac1, rfl, _, _, _⟩ := reads_subs hsA
  clear hsA
  have hc07 := hc06.drew.tr hc7
  have hx7 := hx6.drew.keep hc7 NoB.elim
  have hy7 := hy6.drew.keep hc7 NoB.elim
  go_wp2_with fail
  refine ⟨fun _ => ⟨hx7.cell 0, hx7.cell 1, hx7.cell 2, hx7.cell 3, hx7.cell 4, hy7.cell 0, hy7.cell 1, hy7.cell 2, hy7.cell 3, hy7.cell 4⟩, fun hSk => ?_⟩
  replace hSk := hSk (by rfl)
  refine n_step 3 rfl (by kernel_rfl) ?_
  go_wp2_with fail
  refine (ownNode_any _ _ w7 S _ (Nat.le_refl _) (hrb'.chg0 hc07) hokb').mono ?_
  rintro en w8 ⟨csb, rfl, hrB, hc8⟩
  obtain ⟨vb, rfl, hsB⟩ := reads_nd.1 hrB
  obtain ⟨b1, bc1, rfl, _, _, _⟩ := reads_subs hsB
  clear hsB
  have hc08 := hc07.tr hc8
  have hx8 := hx7.keep hc8 NoB.elim
  have hy8 := hy7.keep hc8 NoB.elim
  go_wp2_with fail
  refine ⟨fun _ => ⟨hx8.cell 0, hx8.cell 1, hx8.cell 2, hx8.cell 3, hx8.cell 4, hy8.cell 0, hy8.cell 1, hy8.cell 2, hy8.cell 3, hy8.cell 4⟩, fun hSk => ?_⟩
  replace hSk := hSk (by rfl)
  refine n_step 4 rfl (by kernel_rfl) ?_
  go_wp2_with fail
  have hFa := fit_of Hva.out
  have hFb := fit_of Hvb.out
  have hwa := (schema_of_valid Hva.out).small
  have hwb := (schema_of_valid Hvb.out).small
  refine (same_any (.mk i nm r k s) (.mk i' nm' r' k' s') w8 (fun b => b < w8.heap.size) _ _ ((hrA.chg0 hc8).lt.mono (fun b hb => hb.2)) (hrB.lt.mono (fun b hb => hb.2)) hoka' hokb' (fun _ h => h) hFa.nodup hFb.nodup (by omega) (by omega)).mono ?_
  rintro en w9 ⟨rfl, hc9⟩
  have hc09 := hc08.tr hc9
  have hx9 := hx8.keep hc9 NoB.elim
  have hy9 := hy8.keep hc9 NoB.elim
  go_wp2_with fail
  refine ⟨fun _ => ⟨hx9.cell 0, hx9.cell 1, hx9.cell 2, hx9.cell 3, hx9.cell 4, hy9.cell 0, hy9.cell 1, hy9.cell 2, hy9.cell 3, hy9.cell 4⟩, fun hSk => ?_⟩
  replace hSk := hSk (by rfl)
  refine n_step 7 rfl (by kernel_rfl) ?_
  go_wp2_with fail
  refine (sameOf_any (.mk i nm r k s) (.mk i' nm' r' k' s') w9 S _ _ (hra'.chg0 hc09) (hrb'.chg0 hc09) hoka' hokb' (flat_valid Hva.out) (flat_valid Hvb.out)).mono ?_
  rintro en w10 ⟨rfl, hc10⟩
  have hc010 := hc09.tr hc10
  have hx10 := hx9.keep hc10 NoB.elim
  have hy10 := hy9.keep hc10 NoB.elim
  go_wp2_with fail
  refine ⟨fun _ => ⟨hx10.cell 0, hx10.cell 1, hx10.cell 2, hx10.cell 3, hx10.cell 4, hy10.cell 0, hy10.cell 1, hy10.cell 2, hy10.cell 3, hy10.cell 4⟩, fun hSk => ?_⟩
  replace hSk := hSk (by rfl)
  generalize sameF _ _ = sv
  refine n_take (v := ?_) 8 rfl (Or.inl ⟨by rfl, ?_⟩) (by kernel_rfl) (fun _ _ _ h => h) (by assumption) ?_
  rotate_left 1
  · (intro w' hSw; (try dsimp only at hSw); go_simp; try with_reducible rfl)
  simp only [Act.put, List.getElem_toArray, List.getElem_cons_zero, List.getElem_cons_succ, List.setIfInBounds_toArray, List.set_cons_zero, List.set_cons_succ]
  refine n_take (v := ?_) 9 rfl (Or.inl ⟨by rfl, ?_⟩) (by kernel_rfl) (fun _ _ _ h => h) (by assumption) ?_
  rotate_left 1
  · (intro w' hSw; (try dsimp only at hSw); go_simp; try with_reducible rfl)
  simp only [Act.put, List.getElem_toArray, List.getElem_cons_zero, List.getElem_cons_succ, List.setIfInBounds_toArray, List.set_cons_zero, List.set_cons_succ]
  refine n_done (by kernel_rfl) ?_
  go_wp2_with fail
  go_ret
  exact ⟨by cases sv <;> rfl, hc010⟩
end Go.Proofs.YtgcmfpcgmkkobaaGreatDoor
