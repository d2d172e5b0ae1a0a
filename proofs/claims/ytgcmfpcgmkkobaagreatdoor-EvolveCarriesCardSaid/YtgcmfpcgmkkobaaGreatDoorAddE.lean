/-
 evolve's add, at one line: what the closed fact needs.
-/
import Derived.Test.YtgcmfpcgmkkobaaGreatDoorLogNode
import Derived.Deep.DeepCutAuto
set_option linter.unusedVariables false
set_option linter.unusedSimpArgs false
namespace Go.Proofs.YtgcmfpcgmkkobaaGreatDoor
open Go.RowKit

/-- What add leaves: a log of one leaf. -/
def LogOne (gb : Nat) (lo : Nat) (w : World) : Prop :=
 ∃ (sb cp : Nat) (sa : Option Addr) (sc : Nat), Blk w gb [.int .i64 0, .string rootName, .int .i64 1, .int .i64 0, .slice (some ⟨sb, 0, none⟩) 1 cp, .int .i64 2] 63 ∧ lo ≤ sb ∧ sb < w.heap.size ∧ 1 ≤ cp ∧ cp ≤ maxLen ∧ (sc ≤ maxLen ∧ (sa = none → sc = 0)) ∧
  w.cell? ⟨sb, 0, none⟩ = some (.int .i64 1) ∧ w.cell? ⟨sb, 1, none⟩ = some (.string ⟨#[97]⟩) ∧ w.cell? ⟨sb, 2, none⟩ = some (.int .i64 1) ∧ w.cell? ⟨sb, 3, none⟩ = some (.int .i64 2) ∧ w.cell? ⟨sb, 4, none⟩ = some (.slice sa 0 sc)
def RetAdd (gb : Nat) (w : World) (en : Ending) (w' : World) : Prop := en = .returned .nilIface ∧ LogOne gb w.heap.size w' ∧ Chg (OneB gb) w w'

theorem log_end0 {g : Nat} {cur : List Value} {wE : World} {v0 v1 v2 v3 v4 : Value} {gb cp lo : Nat} {sa : Option Addr} {sc : Nat} {t : TypeId}
  (hX : Blk wE g (((((cur.set 0 v0).set 1 v1).set 2 v2).set 3 v3).set 4 v4) t) (hl : 5 ≤ cur.length)
  (e0 : v0 = .int .i64 1) (e1 : v1 = .string ⟨#[97]⟩) (e2 : v2 = .int .i64 1) (e3 : v3 = .int .i64 2) (e4 : v4 = .slice sa 0 sc)
  (hG : Blk wE gb [.int .i64 0, .string rootName, .int .i64 1, .int .i64 0, .slice (some ⟨g, 0, none⟩) 1 cp, .int .i64 2] 63) (hlo : lo ≤ g) (h1 : 1 ≤ cp) (hm : cp ≤ maxLen) (hsa : sc ≤ maxLen ∧ (sa = none → sc = 0)) : LogOne gb lo wE := by
 subst e0 e1 e2 e3 e4
 rcases cur with _ | ⟨a0, _ | ⟨a1, _ | ⟨a2, _ | ⟨a3, _ | ⟨a4, cur⟩⟩⟩⟩⟩ <;> simp only [List.length_cons, List.length_nil] at hl <;> first | omega | skip
 exact ⟨g, cp, sa, sc, hG, hlo, hX.lt, h1, hm, hsa, hX.cell 0, hX.cell 1, hX.cell 2, hX.cell 3, hX.cell 4⟩
theorem log_endA {g gb : Nat} {cur : List Value} {wB : World} {cp lo : Nat} {sa : Option Addr} {sc : Nat} {t : TypeId} (hB : Blk wB g cur t) (hl : 5 ≤ cur.length) (hne : g ≠ gb)
  (hG : Blk wB gb [.int .i64 0, .string rootName, .int .i64 1, .int .i64 0, .slice none 0 0, .int .i64 2] 63) (hlo : lo ≤ g) (h1 : 1 ≤ cp) (hm : cp ≤ maxLen) (hsa : sc ≤ maxLen ∧ (sa = none → sc = 0)) :
  LogOne gb lo (World.setCell (World.setCell (World.setCell (World.setCell (World.setCell (World.setCell wB ⟨g, 0, none⟩ (.int .i64 1)) ⟨g, 1, none⟩ (.string ⟨#[97]⟩)) ⟨g, 2, none⟩ (.int .i64 1)) ⟨g, 3, none⟩ (.int .i64 2)) ⟨g, 4, none⟩ (.slice sa 0 sc)) ⟨gb, 4, none⟩ (.slice (some ⟨g, 0, none⟩) 1 cp)) :=
 log_end0 ((((((hB.set 0 _).set 1 _).set 2 _).set 3 _).set 4 _).other (p := ⟨gb, 4, none⟩) hne _) hl rfl rfl rfl rfl rfl ((store5_other hG hne.symm _ _ _ _ _).set 4 _) hlo h1 hm hsa
theorem log_endB {g gb : Nat} {cur : List Value} {wB : World} {cp lo : Nat} {sa : Option Addr} {sc : Nat} {t : TypeId} (hB : Blk wB g cur t) (hl : 5 ≤ cur.length) (hne : g ≠ gb)
  (hG : Blk wB gb [.int .i64 0, .string rootName, .int .i64 1, .int .i64 0, .slice none 0 0, .int .i64 2] 63) (hlo : lo ≤ g) (h1 : 1 ≤ cp) (hm : cp ≤ maxLen) (hsa : sc ≤ maxLen ∧ (sa = none → sc = 0)) :
  LogOne gb lo (World.setCell (World.setCell (World.setCell (World.setCell (World.setCell (World.setCell wB ⟨gb, 4, none⟩ (.slice (some ⟨g, 0, none⟩) 1 cp)) ⟨g, 0, none⟩ (.int .i64 1)) ⟨g, 1, none⟩ (.string ⟨#[97]⟩)) ⟨g, 2, none⟩ (.int .i64 1)) ⟨g, 3, none⟩ (.int .i64 2)) ⟨g, 4, none⟩ (.slice sa 0 sc)) :=
 log_end0 ((((((hB.other (p := ⟨gb, 4, none⟩) hne _).set 0 _).set 1 _).set 2 _).set 3 _).set 4 _) hl rfl rfl rfl rfl rfl (store5_other (hG.set 4 _) hne.symm _ _ _ _ _) hlo h1 hm hsa

set_option maxHeartbeats 2000000 in
set_option maxRecDepth 100000 in
theorem add_first (gb : Nat) (m : Int) (w : World) (E : Er → Value) (hG : Glo w.heap.size E w) (hg : Blk w gb [.int .i64 0, .string rootName, .int .i64 1, .int .i64 0, .slice none 0 0, .int .i64 1] 63) (hm : w.cell? ⟨11, 0, none⟩ = some (.int .i64 m)) (hgm : 11 ≠ gb)
  (htab : Lib.TabIs Tryz.prog w "strings.asciiSpace" .u8 Lib.asciiSpaceTab) :
  Calls Tryz.prog 50 #[.pointer (some ⟨gb, 0, none⟩), .string ⟨#[48]⟩, .string lineB] w (RetAdd gb w) := by
 unfold lineB
 go_enter Tryz.func50, Tryz.ntmps50
 go_wp2_with fail
 refine (number_zero w).mono ?_
 rintro en w1 ⟨rfl, hc1⟩
 have hg1 := hg.keep hc1 NoB.elim
 go_wp2_with fail
 refine (logNode_first gb _ _ _ _ _ m w1 E ((hG.keep0 hc1).up hc1.size) hg1 ((hc1.cell (lt_of_cell hm) NoB.elim).trans hm) hgm (tab_ascii htab hc1)).mono ?_
 rintro en w2 ⟨⟨sa, sc, hsa, rfl⟩, hg2, hc2⟩
 have hc02 : Chg (OneB gb) w w2 := (hc1.mono (D := OneB gb) (fun _ _ e => NoB.elim e)).trans hc2 (fun _ e => .inl e)
 have hgl := hg2.lt
 have g3 : w2.cell? ⟨gb, 3, none⟩ = some (.int .i64 0) := hg2.cell 3
 have g4 : w2.cell? ⟨gb, 4, none⟩ = some (.slice none 0 0) := hg2.cell 4
 have hnx : w.heap.size ≤ w2.heap.size := hc02.size
 go_wp2_with fail
 generalize hw3 : w2.alloc _ = w3
 have hc3 : Chg NoB w2 w3 := by
  rw [← hw3]
  repeat (first | exact Chg.refl _ _ | apply Chg.alloc | apply Chg.drew)
 have hn3 : Blk w3 (w2.heap.size) (ndCells 1 ⟨#[97]⟩ 1 2 (.slice sa 0 sc)) 28 := by
  rw [← hw3]
  repeat (first | exact Blk.newAt (by first | rfl | (simp; done) | (simp; omega)) | apply Blk.alloc | apply Blk.drew)
 clear hw3 g3 g4
 have hg3 := hg2.keep hc3 NoB.elim
 have hn3l := hn3.lt
 refine wp_region_n (fun w' => w'.cell? ⟨gb, 4, none⟩ = some (.slice none 0 0) ∧ w'.cell? ⟨w2.heap.size, 0, none⟩ = some (.int .i64 1) ∧ w'.cell? ⟨w2.heap.size, 1, none⟩ = some (.string ⟨#[97]⟩) ∧ w'.cell? ⟨w2.heap.size, 2, none⟩ = some (.int .i64 1) ∧ w'.cell? ⟨w2.heap.size, 3, none⟩ = some (.int .i64 2) ∧ w'.cell? ⟨w2.heap.size, 4, none⟩ = some (.slice sa 0 sc)) [7, 8, 9, 10, 11, 12] (by kernel_rfl) ?_ (fun hSh => ?_)
 ·exact ⟨hg3.cell 4, hn3.cell 0, hn3.cell 1, hn3.cell 2, hn3.cell 3, hn3.cell 4⟩
 refine n_take (v := ?_) 0 rfl (Or.inl ⟨by rfl, ?_⟩) (by kernel_rfl) (fun _ _ _ h => h) (by assumption) ?_
 rotate_left 1
 ·(intro w' hSw; (try dsimp only at hSw); go_simp; try with_reducible rfl)
 simp only [Act.put, List.getElem_toArray, List.getElem_cons_zero, List.getElem_cons_succ, List.setIfInBounds_toArray, List.set_cons_zero, List.set_cons_succ]
 refine n_take (v := ?_) 1 rfl (Or.inl ⟨by rfl, ?_⟩) (by kernel_rfl) (fun _ _ _ h => h) (by assumption) ?_
 rotate_left 1
 ·(intro w' hSw; (try dsimp only at hSw); go_simp; try with_reducible rfl)
 simp only [Act.put, List.getElem_toArray, List.getElem_cons_zero, List.getElem_cons_succ, List.setIfInBounds_toArray, List.set_cons_zero, List.set_cons_succ]
 refine n_take (v := ?_) 2 rfl (Or.inl ⟨by rfl, ?_⟩) (by kernel_rfl) (fun _ _ _ h => h) (by assumption) ?_
 rotate_left 1
 ·(intro w' hSw; (try dsimp only at hSw); go_simp; try with_reducible rfl)
 simp only [Act.put, List.getElem_toArray, List.getElem_cons_zero, List.getElem_cons_succ, List.setIfInBounds_toArray, List.set_cons_zero, List.set_cons_succ]
 refine n_take (v := ?_) 3 rfl (Or.inl ⟨by rfl, ?_⟩) (by kernel_rfl) (fun _ _ _ h => h) (by assumption) ?_
 rotate_left 1
 ·(intro w' hSw; (try dsimp only at hSw); go_simp; try with_reducible rfl)
 simp only [Act.put, List.getElem_toArray, List.getElem_cons_zero, List.getElem_cons_succ, List.setIfInBounds_toArray, List.set_cons_zero, List.set_cons_succ]
 refine n_take (v := ?_) 4 rfl (Or.inl ⟨by rfl, ?_⟩) (by kernel_rfl) (fun _ _ _ h => h) (by assumption) ?_
 rotate_left 1
 ·(intro w' hSw; (try dsimp only at hSw); go_simp; try with_reducible rfl)
 simp only [Act.put, List.getElem_toArray, List.getElem_cons_zero, List.getElem_cons_succ, List.setIfInBounds_toArray, List.set_cons_zero, List.set_cons_succ]
 refine n_take (v := ?_) 5 rfl (Or.inl ⟨by rfl, ?_⟩) (by kernel_rfl) (fun _ _ _ h => h) (by assumption) ?_
 rotate_left 1
 ·(intro w' hSw; (try dsimp only at hSw); go_simp; try with_reducible rfl)
 simp only [Act.put, List.getElem_toArray, List.getElem_cons_zero, List.getElem_cons_succ, List.setIfInBounds_toArray, List.set_cons_zero, List.set_cons_succ]
 refine n_step 6 rfl (by kernel_rfl) ?_
 go_wp2_with fail
 have hg3' := hg3.alloc (.cells #[.int .i64 0, .string ⟨#[]⟩, .int .i64 0, .int .i64 0, .slice none 0 0] 28)
 have hn3' := hn3.alloc (.cells #[.int .i64 0, .string ⟨#[]⟩, .int .i64 0, .int .i64 0, .slice none 0 0] 28)
 refine ⟨fun _ => ⟨hg3'.cell 4, hn3'.cell 0, hn3'.cell 1, hn3'.cell 2, hn3'.cell 3, hn3'.cell 4⟩, fun hSk => ?_⟩
 replace hSk := hSk (by rfl)
 refine n_step 7 rfl (by kernel_rfl) ?_
 generalize hwA : World.drew _ = wA at hSk ⊢
 have hcA : Chg NoB w3 wA := by rw [← hwA]; exact ((Chg.refl NoB w3).alloc _).drew
 have hbA : Blk wA w3.heap.size [.int .i64 0, .string ⟨#[]⟩, .int .i64 0, .int .i64 0, .slice none 0 0] 28 := by rw [← hwA]; exact (Blk.newAt rfl).drew
 clear hwA hg3' hn3' hSk hSh
 have hgA := hg3.keep hcA NoB.elim
 have hnA := hn3.keep hcA NoB.elim
 refine wpList_own rfl (.tmp 55) (.tmp 58) 26 rfl w.heap.size 28 Tryz.underlying26 infoNode rfl (by decide) rfl (Own.nil wA w.heap.size 28 5 (fun _ => False)) rfl [Nd.dt (.mk 0 ⟨#[]⟩ 0 0 [])] [.int .i64 0, .string ⟨#[]⟩, .int .i64 0, .int .i64 0, .slice none 0 0] rfl (ReadsC.single rfl (reads_nd.2 ⟨_, rfl, none, 0, rfl, Nat.le_refl _, Nat.zero_le _, .inl ⟨rfl, fun _ => rfl⟩⟩)) hbA.news (fun e => by cases e) ?_ ?_ ?_ ?_
 ·show 0 + 1 ≤ maxLen
  unfold maxLen; omega
 ·show (0 + 1) * 64 ≤ _
  omega
 ·have := (hc3.tr hcA).size; omega
 intro ao2 cp2 wB hoB hcB hatB
 have hcAB : Chg NoB wA wB := hcB.mono (fun y _ e => by cases e)
 obtain ⟨xs, ⟨hx1, hx2⟩, hrd⟩ := hoB
 rcases hx2 with ⟨_, h0⟩ | ⟨g, cap, cur, hv, hgB, hh, hncap, hcapm, hcs, htake⟩
 ·cases h0
 obtain ⟨rfl, -, rfl⟩ := Value.slice.inj hv
 have hgg : g = wA.heap.size := by
  rcases hatB with e | e
  ·cases e
  ·exact Option.some.inj e
 have hB0 : Blk wB g cur.toList 28 := by unfold Blk; rw [hh]
 have htk : cur.toList.take 5 = xs := htake
 have hcap1 : 1 ≤ cp2 := hncap
 obtain ⟨c, q, hxs, hc5, hcr, hq⟩ := (show ReadsC wB _ 5 [Nd.dt (.mk 0 ⟨#[]⟩ 0 0 [])] xs from hrd)
 obtain rfl : q = [] := hq
 rw [List.append_nil] at hxs
 obtain ⟨sv, rfl, hsv⟩ := reads_nd.1 hcr
 obtain ⟨sa0, sc0, rfl, _, _, _⟩ := reads_subs hsv
 have hcell : ∀ j u, [Value.int .i64 0, .string ⟨#[]⟩, .int .i64 0, .int .i64 0, .slice sa0 0 sc0][j]? = some u → wB.cell? ⟨g, j, none⟩ = some u := fun j u hu => by
  rw [hB0.cell j]
  have hj : j < 5 := (List.getElem?_eq_some_iff.1 hu).1
  have h9 : (cur.toList.take 5)[j]? = some u := by rw [htk, hxs]; exact hu
  rwa [List.getElem?_take, if_pos hj] at h9
 have b0 : wB.cell? ⟨g, 0, none⟩ = some (.int .i64 0) := hcell 0 _ rfl
 have b1 : wB.cell? ⟨g, 1, none⟩ = some (.string ⟨#[]⟩) := hcell 1 _ rfl
 have b2 : wB.cell? ⟨g, 2, none⟩ = some (.int .i64 0) := hcell 2 _ rfl
 have b3 : wB.cell? ⟨g, 3, none⟩ = some (.int .i64 0) := hcell 3 _ rfl
 have b4 : wB.cell? ⟨g, 4, none⟩ = some (.slice sa0 0 sc0) := hcell 4 _ rfl
 have z0 : wB.frozen? ⟨g, 0, none⟩ = false := hB0.free 0
 have z1 : wB.frozen? ⟨g, 1, none⟩ = false := hB0.free 1
 have z2 : wB.frozen? ⟨g, 2, none⟩ = false := hB0.free 2
 have z3 : wB.frozen? ⟨g, 3, none⟩ = false := hB0.free 3
 have z4 : wB.frozen? ⟨g, 4, none⟩ = false := hB0.free 4
 have hgB4 := hgA.keep hcAB NoB.elim
 have u4 : wB.cell? ⟨gb, 4, none⟩ = some (.slice none 0 0) := hgB4.cell 4
 have u4f : wB.frozen? ⟨gb, 4, none⟩ = false := hgB4.free 4
 have hgA2 := hgA.lt
 have hggb : g ≠ gb := by omega
 have hgbg : gb ≠ g := by omega
 have hgl2 := hB0.lt
 have hgl3 := hgB4.lt
 have hl5 : 5 ≤ cur.toList.length := by rw [Array.length_toList, hcs]; omega
 have hcw : Chg (OneB gb) w wB := ((hc02.trans' (hc3.tr (hcA.tr hcAB)) (fun _ e => NoB.elim e)))
 clear hcell htk hxs hcr hsv hrd htake hh hv hatB hc5 hx1 hncap hgg
 go_wp2_with fail
 refine ⟨fun hx => absurd hx (by decide), fun _ => ?_⟩
 refine n_fork 8 10 rfl rfl (by kernel_rfl) ?_ ?_
 ·go_wp2_with fail
  refine ⟨fun hx => absurd hx (by decide), fun _ => ?_⟩
  refine n_fork 9 10 rfl rfl (by kernel_rfl) ?_ ?_
  ·go_wp2_with fail
   refine ⟨fun hx => absurd hx (by decide), fun _ => ?_⟩
   refine n_step 10 rfl (by kernel_rfl) ?_
   go_wp2_with fail
   refine ⟨fun hx => absurd hx (by decide), fun _ => ?_⟩
   refine n_step 11 rfl (by kernel_rfl) ?_
   go_wp2_with fail
   refine ⟨fun hx => absurd hx (by decide), fun _ => ?_⟩
   refine n_step 12 rfl (by kernel_rfl) ?_
   go_wp2_with fail
   refine ⟨fun hx => absurd hx (by decide), fun _ => ?_⟩
   refine n_done (by kernel_rfl) ?_
   go_wp2_with fail
   go_ret
   refine ⟨rfl, log_endA hB0 hl5 hggb hgB4 hgB hcap1 hcapm hsa, ?_⟩
   exact (hcw.trans' (store5_chg wB g _ _ _ _ _) (fun b e => by have e : b = g := e; omega)).setCell (p := ⟨gb, 4, none⟩) (.inl rfl) _
  ·go_wp2_with fail
   refine ⟨fun hx => absurd hx (by decide), fun _ => ?_⟩
   refine n_fork 9 11 rfl rfl (by kernel_rfl) ?_ ?_
   ·go_wp2_with fail
    refine ⟨fun hx => absurd hx (by decide), fun _ => ?_⟩
    refine n_step 11 rfl (by kernel_rfl) ?_
    go_wp2_with fail
    refine ⟨fun hx => absurd hx (by decide), fun _ => ?_⟩
    refine n_step 12 rfl (by kernel_rfl) ?_
    go_wp2_with fail
    refine ⟨fun hx => absurd hx (by decide), fun _ => ?_⟩
    refine n_done (by kernel_rfl) ?_
    go_wp2_with fail
    go_ret
    refine ⟨rfl, log_endA hB0 hl5 hggb hgB4 hgB hcap1 hcapm hsa, ?_⟩
    exact (hcw.trans' (store5_chg wB g _ _ _ _ _) (fun b e => by have e : b = g := e; omega)).setCell (p := ⟨gb, 4, none⟩) (.inl rfl) _
   ·go_wp2_with fail
    refine ⟨fun hx => absurd hx (by decide), fun _ => ?_⟩
    refine n_fork 9 12 rfl rfl (by kernel_rfl) ?_ ?_
    ·go_wp2_with fail
     refine ⟨fun hx => absurd hx (by decide), fun _ => ?_⟩
     refine n_step 12 rfl (by kernel_rfl) ?_
     go_wp2_with fail
     refine ⟨fun hx => absurd hx (by decide), fun _ => ?_⟩
     refine n_done (by kernel_rfl) ?_
     go_wp2_with fail
     go_ret
     refine ⟨rfl, log_endA hB0 hl5 hggb hgB4 hgB hcap1 hcapm hsa, ?_⟩
     exact (hcw.trans' (store5_chg wB g _ _ _ _ _) (fun b e => by have e : b = g := e; omega)).setCell (p := ⟨gb, 4, none⟩) (.inl rfl) _
    ·go_wp2_with fail
     refine ⟨fun hx => absurd hx (by decide), fun _ => ?_⟩
     refine n_step 9 rfl (by kernel_rfl) ?_
     go_wp2_with fail
     refine ⟨fun hx => absurd hx (by decide), fun _ => ?_⟩
     refine n_done (by kernel_rfl) ?_
     go_wp2_with fail
     go_ret
     refine ⟨rfl, log_endB hB0 hl5 hggb hgB4 hgB hcap1 hcapm hsa, ?_⟩
     exact (hcw.setCell (p := ⟨gb, 4, none⟩) (.inl rfl) _).trans' (store5_chg _ g _ _ _ _ _) (fun b e => by have e : b = g := e; omega)
 ·go_wp2_with fail
  refine ⟨fun hx => absurd hx (by decide), fun _ => ?_⟩
  refine n_fork 8 11 rfl rfl (by kernel_rfl) ?_ ?_
  ·go_wp2_with fail
   refine ⟨fun hx => absurd hx (by decide), fun _ => ?_⟩
   refine n_fork 9 11 rfl rfl (by kernel_rfl) ?_ ?_
   ·go_wp2_with fail
    refine ⟨fun hx => absurd hx (by decide), fun _ => ?_⟩
    refine n_step 11 rfl (by kernel_rfl) ?_
    go_wp2_with fail
    refine ⟨fun hx => absurd hx (by decide), fun _ => ?_⟩
    refine n_step 12 rfl (by kernel_rfl) ?_
    go_wp2_with fail
    refine ⟨fun hx => absurd hx (by decide), fun _ => ?_⟩
    refine n_done (by kernel_rfl) ?_
    go_wp2_with fail
    go_ret
    refine ⟨rfl, log_endA hB0 hl5 hggb hgB4 hgB hcap1 hcapm hsa, ?_⟩
    exact (hcw.trans' (store5_chg wB g _ _ _ _ _) (fun b e => by have e : b = g := e; omega)).setCell (p := ⟨gb, 4, none⟩) (.inl rfl) _
   ·go_wp2_with fail
    refine ⟨fun hx => absurd hx (by decide), fun _ => ?_⟩
    refine n_fork 9 12 rfl rfl (by kernel_rfl) ?_ ?_
    ·go_wp2_with fail
     refine ⟨fun hx => absurd hx (by decide), fun _ => ?_⟩
     refine n_step 12 rfl (by kernel_rfl) ?_
     go_wp2_with fail
     refine ⟨fun hx => absurd hx (by decide), fun _ => ?_⟩
     refine n_done (by kernel_rfl) ?_
     go_wp2_with fail
     go_ret
     refine ⟨rfl, log_endA hB0 hl5 hggb hgB4 hgB hcap1 hcapm hsa, ?_⟩
     exact (hcw.trans' (store5_chg wB g _ _ _ _ _) (fun b e => by have e : b = g := e; omega)).setCell (p := ⟨gb, 4, none⟩) (.inl rfl) _
    ·go_wp2_with fail
     refine ⟨fun hx => absurd hx (by decide), fun _ => ?_⟩
     refine n_step 9 rfl (by kernel_rfl) ?_
     go_wp2_with fail
     refine ⟨fun hx => absurd hx (by decide), fun _ => ?_⟩
     refine n_done (by kernel_rfl) ?_
     go_wp2_with fail
     go_ret
     refine ⟨rfl, log_endB hB0 hl5 hggb hgB4 hgB hcap1 hcapm hsa, ?_⟩
     exact (hcw.setCell (p := ⟨gb, 4, none⟩) (.inl rfl) _).trans' (store5_chg _ g _ _ _ _ _) (fun b e => by have e : b = g := e; omega)
  ·go_wp2_with fail
   refine ⟨fun hx => absurd hx (by decide), fun _ => ?_⟩
   refine n_fork 8 12 rfl rfl (by kernel_rfl) ?_ ?_
   ·go_wp2_with fail
    refine ⟨fun hx => absurd hx (by decide), fun _ => ?_⟩
    refine n_fork 9 12 rfl rfl (by kernel_rfl) ?_ ?_
    ·go_wp2_with fail
     refine ⟨fun hx => absurd hx (by decide), fun _ => ?_⟩
     refine n_step 12 rfl (by kernel_rfl) ?_
     go_wp2_with fail
     refine ⟨fun hx => absurd hx (by decide), fun _ => ?_⟩
     refine n_done (by kernel_rfl) ?_
     go_wp2_with fail
     go_ret
     refine ⟨rfl, log_endA hB0 hl5 hggb hgB4 hgB hcap1 hcapm hsa, ?_⟩
     exact (hcw.trans' (store5_chg wB g _ _ _ _ _) (fun b e => by have e : b = g := e; omega)).setCell (p := ⟨gb, 4, none⟩) (.inl rfl) _
    ·go_wp2_with fail
     refine ⟨fun hx => absurd hx (by decide), fun _ => ?_⟩
     refine n_step 9 rfl (by kernel_rfl) ?_
     go_wp2_with fail
     refine ⟨fun hx => absurd hx (by decide), fun _ => ?_⟩
     refine n_done (by kernel_rfl) ?_
     go_wp2_with fail
     go_ret
     refine ⟨rfl, log_endB hB0 hl5 hggb hgB4 hgB hcap1 hcapm hsa, ?_⟩
     exact (hcw.setCell (p := ⟨gb, 4, none⟩) (.inl rfl) _).trans' (store5_chg _ g _ _ _ _ _) (fun b e => by have e : b = g := e; omega)
   ·go_wp2_with fail
    refine ⟨fun hx => absurd hx (by decide), fun _ => ?_⟩
    refine n_step 8 rfl (by kernel_rfl) ?_
    go_wp2_with fail
    refine ⟨fun hx => absurd hx (by decide), fun _ => ?_⟩
    refine n_step 9 rfl (by kernel_rfl) ?_
    go_wp2_with fail
    refine ⟨fun hx => absurd hx (by decide), fun _ => ?_⟩
    refine n_done (by kernel_rfl) ?_
    go_wp2_with fail
    go_ret
    refine ⟨rfl, log_endB hB0 hl5 hggb hgB4 hgB hcap1 hcapm hsa, ?_⟩
    exact (hcw.setCell (p := ⟨gb, 4, none⟩) (.inl rfl) _).trans' (store5_chg _ g _ _ _ _ _) (fun b e => by have e : b = g := e; omega)
end Go.Proofs.YtgcmfpcgmkkobaaGreatDoor
