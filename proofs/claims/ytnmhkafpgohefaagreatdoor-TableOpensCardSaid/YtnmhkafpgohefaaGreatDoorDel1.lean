/-
  slices.Delete of one node, slices.Insert of one node, in a row.
-/
import Derived.Test.YtnmhkafpgohefaaGreatDoorDelF
import Derived.Test.YtnmhkafpgohefaaGreatDoorTreeMore
import Derived.Lib.Overlaps
set_option linter.unusedVariables false
set_option maxHeartbeats 20000000
set_option maxRecDepth 100000
set_option linter.unusedSimpArgs false
namespace Go.Proofs.YtnmhkafpgohefaaGreatDoor
open Go.RowKit
theorem celL_one : ∀ (L : List Ch), (∀ x ∈ L, ∀ u ∈ x.2.1, u.oneCell' = true) → ∀ u ∈ celL L, u.oneCell' = true := by
 intro L h u hu
 obtain ⟨x, hx, hux⟩ := List.mem_flatMap.1 hu
 exact h x hx u hux
def RetRow (v : Value) (g : Nat) (cs : List Value) (n : Nat) (w : World) (en : Ending) (w' : World) : Prop :=
 en = .returned v ∧ ∃ r', Blk w' g (cs ++ r') 56 ∧ (cs ++ r').length = n ∧ Chg (OneB g) w w'
theorem del1_any (L1 L2 : List Ch) (x : Ch) (r : List Value) (g i m cap : Nat) (w : World) (h1 : L1.length = i) (h2 : L2.length = m) (hb : Blk w g (celL (L1 ++ x :: L2) ++ r) 56) (h5 : ∀ y ∈ L1 ++ x :: L2, y.2.1.length = 5) (h1c : ∀ y ∈ L2, ∀ u ∈ y.2.1, u.oneCell' = true) (hcap : i + 1 + m ≤ cap) (hcm : cap ≤ maxLen) :
  Calls Tryz.prog 57 #[.slice (some ⟨g, 0, none⟩) (i + 1 + m) cap, .int .i64 (i : Nat), .int .i64 ((i : Int) + 1)] w (RetRow (.slice (some ⟨g, 0, none⟩) (i + m) cap) g (celL (L1 ++ L2)) (celL (L1 ++ x :: L2) ++ r).length w) := by
 unfold maxLen at hcm
 obtain ⟨i0, hi, hz, hsz, hby⟩ := info_parts infoNode
 have hl1 : (celL L1).length = i * 5 := by rw [celL_len _ (fun y hy => h5 y (List.mem_append_left _ hy)), h1]
 have hlx : x.2.1.length = 5 := h5 x (List.mem_append_right _ (List.mem_cons_self ..))
 have hl2 : (celL L2).length = m * 5 := by rw [celL_len _ (fun y hy => h5 y (List.mem_append_right _ (List.mem_cons_of_mem _ hy))), h2]
 have hcut : ∃ mid tail, x.2.1 ++ celL L2 = mid ++ tail ∧ mid.length = m * 5 ∧ tail.length = 5 := ⟨(x.2.1 ++ celL L2).take (m * 5), (x.2.1 ++ celL L2).drop (m * 5), (List.take_append_drop ..).symm, by rw [List.length_take, List.length_append, hlx, hl2]; omega, by rw [List.length_drop, List.length_append, hlx, hl2]; omega⟩
 obtain ⟨mid, tail, hmt, hml, htl⟩ := hcut
 have hb1 : Blk w g (celL L1 ++ (mid ++ (tail ++ r))) 56 := by
  rw [← List.append_assoc mid, ← hmt, ← List.append_assoc, ← celL_cons, ← celL_append]
  exact hb
 have hsrc : ∀ (j : Nat) (v : Value), (celL L2)[j]? = some v → w.cell? ((⟨g, (i + 1) * 5, none⟩ : Addr).add j) = some v := fun j v hj => by
  rw [Addr.add_lit, hb.cell, celL_append, celL_cons, List.append_assoc, List.getElem?_append_right (by rw [hl1]; omega), hl1, List.append_assoc, List.getElem?_append_right (by rw [hlx]; omega), hlx, List.getElem?_append_left (by have := (List.getElem?_eq_some_iff.1 hj).1; omega)]
  rw [← hj]; congr 1; omega
 have hlen : (celL (L1 ++ x :: L2) ++ r).length = i * 5 + 5 + m * 5 + r.length := by rw [List.length_append, celL_append, celL_cons, List.length_append, List.length_append, hl1, hlx, hl2]; omega
 have Hlen := Lib.hid hlen
 have Hl1 := Lib.hid hl1
 have Hl2 := Lib.hid hl2
 have Htl := Lib.hid htl
 have key : ∀ (a : Addr) (c : Nat), (m ≠ 0 → a = ⟨g, (i + 1) * 5, none⟩) → ∃ w', (Builtin.append_ #[54, 54] 54 #[.slice (some ⟨g, 0, none⟩) i cap, .slice (some a) m c]).run Tryz.prog w.drew = .ok (.slice (some ⟨g, 0, none⟩) (i + m) cap) w' ∧ Mid w.drew g (celL L1) (celL L2) (tail ++ r) 56 w' := fun a c ha =>
  run_append_mid (P := Tryz.prog) w.drew 54 54 56 i0 Tryz.underlying54 hi hb1 (by rw [hl1, hsz]) (by rw [hl2, hsz]) (by rw [hml, hl2])
   (fun j v hj => by
    have hm0 : m ≠ 0 := by have := (List.getElem?_eq_some_iff.1 hj).1; omega
    rw [ha hm0]; exact hsrc j v hj) (celL_one L2 h1c) (by omega)
 have Key := Lib.hid key
 clear key hsrc hb1 hml hmt hlen hl1 hl2 htl hb hlx h1c h5 h1 h2 hi hz hsz hby
 have hne : ((i : Int) == (i : Int) + 1) = false := by rw [beq_eq_false_iff_ne]; omega
 have hA : (0 : Int) ≤ (i : Int) + 1 := by omega
 have hB : (i : Int) + 1 ≤ (i : Int) + 1 + (m : Int) := by omega
 by_cases hce : cap = i + 1
 ·obtain rfl : m = 0 := by omega
  subst hce
  clear hB hA
  have hA : (0 : Int) ≤ (i : Int) + 1 := by omega
  have hB : (i : Int) ≤ (i : Int) + 1 := by omega
  go_enter Tryz.func57, Tryz.ntmps57
  go_wp2_with fail
  refine wp_region_n (fun w' => True) [] (by kernel_rfl) ?_ (fun hSh => ?_)
  ·trivial
  refine n_from 0 ?_
  intro htk
  iterate 6
   refine n_tB (v := ?_) htk rfl (Or.inl ⟨by rfl, ?_⟩) ?_
   rotate_left 1
   ·(intro w' hSw; (try dsimp only at hSw); go_simp; try with_reducible rfl)
   clear htk
   intro htk
   simp only [Nat.reduceAdd] at htk
   simp only [Act.put, qA, qB, qC, qD, qE, qF]
  clear htk
  refine n_step 6 rfl (by kernel_rfl) ?_
  refine wpList_append_ex rfl (.tmp 22) (.tmp 25) 54 54 rfl _ _ rfl rfl (Key.out ⟨g, 0, none⟩ 0 (fun h => absurd rfl h)) ?_
  intro wA hmA
  have HmA := Lib.hid hmA
  clear hmA
  go_wp2_with fail
  refine ⟨fun _ => trivial, fun _ => ?_⟩
  refine n_tA (v := ?_) 7 rfl (Or.inl ⟨by rfl, ?_⟩) ?_
  rotate_left 1
  ·(intro w' hSw; (try dsimp only at hSw); go_simp; try with_reducible rfl)
  simp only [Act.put, qA, qB, qC, qD, qE, qF]
  refine n_done (by kernel_rfl) ?_
  obtain ⟨w9, hr9, hm9⟩ := run_clear_mid (P := Tryz.prog) (n := 1) (c := 1) (pre := celL L1 ++ celL L2) wA 54 56 0 Tryz.underlying54 zero_nodeV (zero_one _) (by rw [List.append_assoc]; exact HmA.out.blk) (by rw [Htl.out, zero_five])
  rw [show (celL L1 ++ celL L2).length = i * 5 from by rw [List.length_append, Hl1.out, Hl2.out]; omega] at hr9
  generalize hzs : (Builtin.zeroCells zeroAgg.cells 1).toList = zs at hm9
  have Hm9 := Lib.hid hm9
  have Hzs := Lib.hid hzs
  clear hm9 hzs
  have hE : ¬ i + 1 = i := by omega
  go_wp2_with fail
  go_ret
  refine ⟨rfl, zs ++ r, ?_, ?_, ((Chg.refl (OneB g) w).drew.trans HmA.out.chg (fun _ e => .inl e)).trans Hm9.out.chg (fun _ e => .inl e)⟩
  ·rw [celL_append]; exact Hm9.out.blk
  ·rw [Hlen.out, celL_append, List.length_append, List.length_append, List.length_append, Hl1.out, Hl2.out, ← Hzs.out, Array.length_toList, Builtin.zeroCells, Array.size_map, Array.size_range, zero_five]; omega
 ·have hile : i ≤ cap := by omega
  go_enter Tryz.func57, Tryz.ntmps57
  go_wp2_with fail
  refine wp_region_n (fun w' => True) [] (by kernel_rfl) ?_ (fun hSh => ?_)
  ·trivial
  refine n_from 0 ?_
  intro htk
  iterate 6
   refine n_tB (v := ?_) htk rfl (Or.inl ⟨by rfl, ?_⟩) ?_
   rotate_left 1
   ·(intro w' hSw; (try dsimp only at hSw); go_simp; try with_reducible rfl)
   clear htk
   intro htk
   simp only [Nat.reduceAdd] at htk
   simp only [Act.put, qA, qB, qC, qD, qE, qF]
  clear htk
  refine n_step 6 rfl (by kernel_rfl) ?_
  refine wpList_append_ex rfl (.tmp 22) (.tmp 25) 54 54 rfl _ _ rfl rfl (Key.out _ _ (fun _ => rfl)) ?_
  intro wA hmA
  have HmA := Lib.hid hmA
  clear hmA
  go_wp2_with fail
  refine ⟨fun _ => trivial, fun _ => ?_⟩
  refine n_tA (v := ?_) 7 rfl (Or.inl ⟨by rfl, ?_⟩) ?_
  rotate_left 1
  ·(intro w' hSw; (try dsimp only at hSw); go_simp; try with_reducible rfl)
  simp only [Act.put, qA, qB, qC, qD, qE, qF]
  refine n_done (by kernel_rfl) ?_
  have hone : i + 1 + m - (i + m) = 1 := by omega
  obtain ⟨w9, hr9, hm9⟩ := run_clear_mid (P := Tryz.prog) (n := i + 1 + m - (i + m)) (c := cap - (i + m)) (pre := celL L1 ++ celL L2) wA 54 56 0 Tryz.underlying54 zero_nodeV (zero_one _) (by rw [List.append_assoc]; exact HmA.out.blk) (by rw [Htl.out, zero_five, hone])
  rw [show (celL L1 ++ celL L2).length = (i + m) * 5 from by rw [List.length_append, Hl1.out, Hl2.out]; omega] at hr9
  rw [hone] at hm9
  generalize hzs : (Builtin.zeroCells zeroAgg.cells 1).toList = zs at hm9
  clear hone
  have Hm9 := Lib.hid hm9
  have Hzs := Lib.hid hzs
  clear hm9 hzs
  have hC : (i : Int) + (m : Int) ≤ (i : Int) + 1 + (m : Int) := by omega
  have hD : (0 : Int) ≤ (i : Int) + (m : Int) := by omega
  have hE : ¬ cap = i + m := by omega
  go_wp2_with fail
  go_ret
  refine ⟨rfl, zs ++ r, ?_, ?_, ((Chg.refl (OneB g) w).drew.trans HmA.out.chg (fun _ e => .inl e)).trans Hm9.out.chg (fun _ e => .inl e)⟩
  ·rw [celL_append]; exact Hm9.out.blk
  ·rw [Hlen.out, celL_append, List.length_append, List.length_append, List.length_append, Hl1.out, Hl2.out, ← Hzs.out, Array.length_toList, Builtin.zeroCells, Array.size_map, Array.size_range, zero_five]; omega
theorem ins1_any (L1 L2 : List Ch) (x : Ch) (r : List Value) (g i m cap vb : Nat) (w : World) (h1 : L1.length = i) (h2 : L2.length = m) (hb : Blk w g (celL (L1 ++ L2) ++ r) 56) (hlr : (celL (L1 ++ L2) ++ r).length = cap * 5) (h5 : ∀ y ∈ L1 ++ L2, y.2.1.length = 5) (h1c : ∀ y ∈ L2, ∀ u ∈ y.2.1, u.oneCell' = true)
  (hv : Blk w vb x.2.1 56) (hx5 : x.2.1.length = 5) (hx1 : ∀ u ∈ x.2.1, u.oneCell' = true) (hvg : vb ≠ g) (hcap : i + m + 1 ≤ cap) (hcm : cap ≤ maxLen) :
  Calls Tryz.prog 56 #[.slice (some ⟨g, 0, none⟩) (i + m) cap, .int .i64 (i : Nat), .slice (some ⟨vb, 0, none⟩) 1 1] w (RetRow (.slice (some ⟨g, 0, none⟩) (i + m + 1) cap) g (celL (L1 ++ x :: L2)) (cap * 5) w) := by
 unfold maxLen at hcm
 obtain ⟨i0, hi, hz, hsz, hby⟩ := info_parts infoNode
 have hl1 : (celL L1).length = i * 5 := by rw [celL_len _ (fun y hy => h5 y (List.mem_append_left _ hy)), h1]
 have hl2 : (celL L2).length = m * 5 := by rw [celL_len _ (fun y hy => h5 y (List.mem_append_right _ hy)), h2]
 have hrl : 5 ≤ r.length := by rw [List.length_append, celL_append, List.length_append, hl1, hl2] at hlr; omega
 have hsize : (Tryz.prog.info? 56).map (·.size) = some 5 := by rw [hi]; simp [hsz]
 have hne0 : ((1 : Int) == 0) = false := rfl
 have hicap : ¬ cap = i := by omega
 have hile : i ≤ cap := by omega
 have hA : (i : Int) ≤ (i : Int) + (m : Int) := by omega
 have hvl : ∀ (j : Nat) (u : Value), x.2.1[j]? = some u → ∀ W : World, Blk W vb x.2.1 56 → W.cell? ((⟨vb, 0, none⟩ : Addr).add j) = some u := fun j u hj W hW => by
  rw [Addr.add_lit, Nat.zero_add, hW.cell]; exact hj
 by_cases hm0 : m = 0
 ·subst hm0
  obtain rfl := List.eq_nil_of_length_eq_zero h2
  rw [List.append_nil] at hb hlr
  obtain ⟨wA, hrA, hmA⟩ := run_append_mid (P := Tryz.prog) (cap := cap) (c := 1) w 54 54 56 i0 Tryz.underlying54 hi (pre := celL L1) (mid := r.take 5) (post := r.drop 5) (by rw [List.take_append_drop]; exact hb) (by rw [hl1, hsz]) (news := x.2.1) (m := 1) (a := ⟨vb, 0, none⟩) (by rw [hx5, hsz]) (by rw [List.length_take, hx5]; omega) (fun j u hj => hvl j u hj w hv) hx1 (by omega)
  have hE : ((i : Int) == (i : Int) + 0) = true := by simp
  have Key := Lib.hid (show ∃ w', (Builtin.append_ #[54, 54] 54 #[.slice (some ⟨g, 0, none⟩) i cap, .slice (some ⟨vb, 0, none⟩) 1 1]).run Tryz.prog w = .ok (.slice (some ⟨g, 0, none⟩) (i + 1) cap) w' ∧ Mid w g (celL L1) x.2.1 (r.drop 5) 56 w' from ⟨wA, hrA, hmA⟩)
  have HL := Lib.hid hlr
  have Hx5 := Lib.hid hx5
  clear hrA hmA hb hlr h5 h1c hv hvl hl1 hl2 hi hz hsz hby h1 hx1 h2 hsize hx5
  go_enter Tryz.func56, Tryz.ntmps56
  go_wp2_with (at_builtin; refine stop_here ?_)
  refine Stop.go ?_
  refine wpList_append_ex rfl (.tmp 23) (.tmp 24) 54 54 rfl _ _ rfl rfl Key.out ?_
  intro wA hmA
  have HmA := Lib.hid hmA
  clear hmA
  go_wp2_with fail
  go_ret
  refine ⟨rfl, r.drop 5, ?_, ?_, HmA.out.chg⟩
  ·have h9 := HmA.out.blk
   rw [celL_append, celL_cons, celL_nil, List.append_nil, List.append_assoc]
   exact h9
  ·have h9 := HL.out
   rw [List.length_append] at h9
   rw [celL_append, celL_cons, celL_nil, List.append_nil, List.length_append, List.length_append, List.length_drop, Hx5.out]
   omega
 ·have hmp : 0 < m := Nat.pos_of_ne_zero hm0
  have hE : ((i : Int) == (i : Int) + (m : Int)) = false := by rw [beq_eq_false_iff_ne]; omega
  have hov : ∀ (W : World) lb cb, Blk W vb x.2.1 56 → Blk W g (celL (L1 ++ L2) ++ r) 56 → (callFunc 98 #[.slice (some ⟨vb, 0, none⟩) 1 1, .slice (some ⟨g, (i + 1) * 5, none⟩) lb cb]).run Tryz.prog W = .ok (.value (.bool false)) W := fun W lb cb hW hG => by
   rw [run_callFunc_extern Tryz.func98 (by kernel_rfl) (by kernel_rfl) (by kernel_rfl) (e := Extern.SlicesOverlaps.overlaps #[54, 54] #[4]) (by kernel_rfl),
    Lib.run_overlaps_apart W 54 4 56 Tryz.underlying54 5 (by intro w; kernel_rfl) ⟨vb, 0, none⟩ ⟨g, (i + 1) * 5, none⟩ 1 1 lb cb hvg 56 56 x.2.1.length (celL (L1 ++ L2) ++ r).length (by unfold Blk at hW; unfold World.shape?; rw [hW]; simp) (by unfold Blk at hG; unfold World.shape?; rw [hG]; simp) (by omega) (hW.free 0) (hW.free _)]
   rfl
  have hd0 : Chg NoB w w.drew := (Chg.refl _ _).drew
  have hcells : Blk w.drew g (celL L1 ++ (celL L2 ++ r)) 56 := by rw [← List.append_assoc, ← celL_append]; exact hb.drew
  have hcp1 : ∀ dl sl c1 c2, dl = m → sl = m + 1 → ∃ w', (Builtin.copy_ #[54, 54] 3 #[.slice (some ⟨g, (i + 1) * 5, none⟩) dl c1, .slice (some ⟨g, i * 5, none⟩) sl c2]).run Tryz.prog w.drew = .ok (goInt (Nat.min sl dl)) w' ∧ Mid w.drew g (celL L1 ++ (celL L2 ++ r).take 5) (celL L2) (r.drop 5) 56 w' := fun dl sl c1 c2 hdl hsl => by
   have hpl : (celL L1 ++ (celL L2 ++ r).take 5).length = (i + 1) * 5 := by rw [List.length_append, List.length_take, List.length_append, hl1, hl2]; omega
   have hmid : ((celL L2 ++ r).drop 5).take (m * 5) ++ r.drop 5 = (celL L2 ++ r).drop 5 := by
    rw [show r.drop 5 = ((celL L2 ++ r).drop 5).drop (m * 5) from by rw [List.drop_drop, Nat.add_comm, ← List.drop_drop, ← hl2, List.drop_left]]
    exact List.take_append_drop ..
   have h9 := run_copy_mid (P := Tryz.prog) (dCap := c1) (sCap := c2) (dLen := dl) (sLen := sl) (a := ⟨g, i * 5, none⟩) w.drew 54 54 3 56 Tryz.underlying54 hsize (pre := celL L1 ++ (celL L2 ++ r).take 5) (mid := ((celL L2 ++ r).drop 5).take (m * 5)) (post := r.drop 5) (news := celL L2)
    (by rw [hmid, List.append_assoc, List.take_append_drop]; exact hcells) (by rw [hl2, hdl, hsl]; congr 1; simp only [Nat.min_def]; split <;> omega) (fun j u hj => by
     rw [Addr.add_lit, hcells.cell, List.getElem?_append_right (by rw [hl1]; omega), hl1, Nat.add_sub_cancel_left, List.getElem?_append_left (List.getElem?_eq_some_iff.1 hj).1]
     exact hj) (by rw [List.length_take, List.length_drop, List.length_append, hl2]; omega) (celL_one L2 h1c)
   rw [hpl] at h9
   exact h9
  have hcp2 : ∀ (w1 : World) dl c1, dl = m + 1 → Mid w.drew g (celL L1 ++ (celL L2 ++ r).take 5) (celL L2) (r.drop 5) 56 w1 → ∃ w', (Builtin.copy_ #[54, 54] 3 #[.slice (some ⟨g, i * 5, none⟩) dl c1, .slice (some ⟨vb, 0, none⟩) 1 1]).run Tryz.prog w1 = .ok (goInt (Nat.min 1 dl)) w' ∧ Mid w1 g (celL L1) x.2.1 (celL L2 ++ r.drop 5) 56 w' := fun w1 dl c1 hdl hm1 => by
   have h9 := run_copy_mid (P := Tryz.prog) (dCap := c1) (sCap := 1) (dLen := dl) (sLen := 1) (a := ⟨vb, 0, none⟩) w1 54 54 3 56 Tryz.underlying54 hsize (pre := celL L1) (mid := (celL L2 ++ r).take 5) (post := celL L2 ++ r.drop 5) (news := x.2.1)
    (by rw [← List.append_assoc]; exact hm1.blk) (by rw [hx5, hdl]; simp only [Nat.min_def]; split <;> omega) (fun j u hj => hvl j u hj w1 (hv.drew.keep hm1.chg (fun e => hvg e))) (by rw [List.length_take, List.length_append, hl2, hx5]; omega) hx1
   rw [hl1] at h9
   exact h9
  have hov1 := hov w
  have Hov := Lib.hid (fun lb cb => hov w lb cb hv hb)
  have Hcp1 := Lib.hid hcp1
  have Hcp2 := Lib.hid hcp2
  have HL := Lib.hid hlr
  have Hx5 := Lib.hid hx5
  have Hl1 := Lib.hid hl1
  have Hl2 := Lib.hid hl2
  clear hov hov1 hcp1 hcp2 hcells hb hlr h5 h1c hv hvl hl1 hl2 hi hz hsz hby h1 hx1 h2 hsize hx5 hm0
  have hov := Hov.out
  have hB : (i : Int) + 1 ≤ (i : Int) + (m : Int) + 1 := by omega
  have hC : (i : Int) ≤ (i : Int) + (m : Int) + 1 := by omega
  have hD : ¬ cap = i + 1 := by omega
  have hF : (i : Int) + (m : Int) + 1 ≤ (cap : Int) := by omega
  go_enter Tryz.func56, Tryz.ntmps56
  go_wp2_with (simp only [hov])
  clear hov
  have hG : (0 : Int) ≤ (i : Int) + 1 := by omega
  have hwr : IntKind.i64.wrap ((i : Int) + 1) = (i : Int) + 1 := by rw [IntKind.wrap_i64]; omega
  have htn : ((i : Int) + 1).toNat = i + 1 := by omega
  refine wp_region_n (fun w' => True) [] (by kernel_rfl) ?_ (fun hSh => ?_)
  ·trivial
  refine n_from 0 ?_
  intro htk
  iterate 8
   refine n_tB (v := ?_) htk rfl (Or.inl ⟨by rfl, ?_⟩) ?_
   rotate_left 1
   ·(intro w' hSw; (try dsimp only at hSw); go_simp; try with_reducible rfl)
   clear htk
   intro htk
   simp only [Nat.reduceAdd] at htk
   simp only [Act.put, qA, qB, qC, qD, qE, qF]
  clear htk
  refine n_step 8 rfl (by kernel_rfl) ?_
  refine wpList_copy_ex rfl (.tmp 73) (.tmp 76) 54 54 rfl _ _ rfl rfl (Hcp1.out _ _ _ _ (by omega) (by omega)) ?_
  intro wA hmA
  have HmA := Lib.hid hmA
  clear hmA
  go_wp2_with fail
  refine ⟨fun _ => trivial, fun _ => ?_⟩
  refine n_done (by kernel_rfl) ?_
  obtain ⟨wB, hrB, hmB⟩ := Hcp2.out wA (i + m + 1 - i) (cap - i) (by omega) HmA.out
  have HmB := Lib.hid hmB
  clear hmB
  go_wp2_with fail
  go_ret
  refine ⟨rfl, r.drop 5, ?_, ?_, (((Chg.refl (OneB g) w).drew).trans HmA.out.chg (fun _ e => .inl e)).trans HmB.out.chg (fun _ e => .inl e)⟩
  ·have h9 := HmB.out.blk
   rw [celL_append, celL_cons, List.append_assoc, List.append_assoc]
   exact h9
  ·have h9 := HL.out
   rw [List.length_append, celL_append, List.length_append, Hl1.out, Hl2.out] at h9
   rw [List.length_append, celL_append, celL_cons, List.length_append, List.length_append, Hl1.out, Hl2.out, List.length_drop, Hx5.out]
   omega
end Go.Proofs.YtnmhkafpgohefaaGreatDoor
