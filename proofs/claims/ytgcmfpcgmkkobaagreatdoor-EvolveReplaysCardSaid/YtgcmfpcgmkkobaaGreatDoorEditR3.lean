/-
  The document's Edit: widen, loosen.; The document's Edit: rename.
-/
import Derived.Test.YtgcmfpcgmkkobaaGreatDoorEditR
import Derived.Test.YtgcmfpcgmkkobaaGreatDoorWordsR
set_option linter.unusedVariables false
set_option maxHeartbeats 20000000
set_option maxRecDepth 100000
set_option linter.unusedSimpArgs false
namespace Go.Proofs.YtgcmfpcgmkkobaaGreatDoor
open Go.RowKit
theorem editR_widen (line : ByteArray) (W : List (List UInt8)) (its : List It) (l : List Nd) (nx : Int) (gb : Nat) (w : World) (hI : EdIn line its l nx gb w) (hW : wordsB line = ([119, 105, 100, 101, 110] :: W).map mkB) :
  Calls Tryz.prog 41 #[.pointer (some ⟨gb, 0, none⟩), .string line] w (RetEdR gb (editW (wordsB line) l nx) w) := by
 obtain ⟨hl, hR, hS, hw, hnx, hlt, hL⟩ := hI
 have hL2 := hL
 have f0 := beq_no (show ([119, 105, 100, 101, 110] : List UInt8) ≠ [97, 100, 100] by decide)
 have f1 := beq_no (show ([119, 105, 100, 101, 110] : List UInt8) ≠ [100, 114, 111, 112] by decide)
 have f2 := beq_no (show ([119, 105, 100, 101, 110] : List UInt8) ≠ [114, 101, 110, 97, 109, 101] by decide)
 have f3 := beq_no (show ([119, 105, 100, 101, 110] : List UInt8) ≠ [109, 111, 118, 101] by decide)
 have f4 : ((mkB [119, 105, 100, 101, 110]).toList == [119, 105, 100, 101, 110]) = true := by rw [Lib.toList_data]; rfl
 have f5 := beq_no (show ([119, 105, 100, 101, 110] : List UInt8) ≠ [108, 111, 111, 115, 101, 110] by decide)
 obtain ⟨v0, hb0, hI0⟩ := hL
 have g0 : w.cell? ⟨gb, 0, none⟩ = some v0 := hb0.cell 0
 have g1 : w.cell? ⟨gb, 1, none⟩ = some (.int .i64 nx) := hb0.cell 1
 have hgb := hb0.lt
 obtain ⟨a0, c0, rfl, hlc, hcm, _⟩ := hI0.form
 have HLT := Lib.hid hlt
 have HW := Lib.hid hW
 clear hlt
 go_enter Tryz.func41, Tryz.ntmps41
 go_wp2_with fail
 refine (wordsR_any line w (by omega)).mono ?_
 rintro en w1 ⟨v1, rfl, ho1, hc1⟩
 obtain ⟨ob, off, cap, rfl, hcw⟩ := words_cells HW.out (by have := words_count line; rw [HW.out, List.length_map] at this; omega) ho1
 replace g0 := (hc1.cell (p := ⟨gb, 0, none⟩) hgb nbE).trans g0
 replace g1 := (hc1.cell (p := ⟨gb, 1, none⟩) hgb nbE).trans g1
 have z0 := hcw 0 _ rfl
 rw [Nat.add_zero] at z0
 have Hcw := Lib.hid hcw
 clear hcw ho1 hW
 have hWl : (([119, 105, 100, 101, 110] : List UInt8) :: W).length = W.length + 1 := rfl
 rw [hWl]
 clear hWl
 by_cases hlen : W.length = 1
 ·obtain ⟨w1', rfl⟩ : ∃ x, W = [x] := List.length_eq_one_iff.1 hlen
  have z1 := Hcw.out 1 _ rfl
  have hs1 := words_small HW.out w1' (by simp)
  simp only [List.length_cons, List.length_nil] at *
  have hc2 : Chg NoB w1 (w1.alloc (.cells #[.string ⟨#[100, 114, 111, 112]⟩, .string ⟨#[114, 101, 110, 97, 109, 101]⟩, .string ⟨#[109, 111, 118, 101]⟩, .string ⟨#[119, 105, 100, 101, 110]⟩, .string ⟨#[108, 111, 111, 115, 101, 110]⟩] 9)) := (Chg.refl _ _).alloc _
  have z0' := (hc2.cell (lt_of_at z0) nbE).trans z0
  have hb2 : Blk (w1.alloc (.cells #[.string ⟨#[100, 114, 111, 112]⟩, .string ⟨#[114, 101, 110, 97, 109, 101]⟩, .string ⟨#[109, 111, 118, 101]⟩, .string ⟨#[119, 105, 100, 101, 110]⟩, .string ⟨#[108, 111, 111, 115, 101, 110]⟩] 9)) w1.heap.size (verbs.map Value.string) 9 := Blk.newAt rfl
  go_wp2_with fail
  generalize World.alloc w1 _ = w2 at hc2 z0' hb2 ⊢
  refine (hasIndex_any verbs (mkB [119, 105, 100, 101, 110]) w1.heap.size 0 5 w2 (by decide) (fun j z hz => by
   rw [Nat.zero_add, hb2.cell j, List.getElem?_map, hz]
   rfl)).mono ?_
  rintro en w3 ⟨rfl, h0⟩
  obtain rfl := h0.symm
  clear h0
  rw [show Lib.idxOfS verbs (mkB [119, 105, 100, 101, 110]) = 3 from by decide +kernel]
  replace g0 := (hc2.cell (p := ⟨gb, 0, none⟩) (lt_of_at g0) nbE).trans g0
  replace g1 := (hc2.cell (p := ⟨gb, 1, none⟩) (lt_of_at g1) nbE).trans g1
  have hc02 := hc1.tr hc2
  clear z0 hb2
  replace z1 := (hc2.cell (lt_of_at z1) nbE).trans z1
  go_wp2_with fail
  refine (numberOf_gen (mkB w1') w2 (by rw [mkB_sz]; omega)).mono ?_
  rintro en w3 ⟨rfl, h0⟩
  obtain rfl := h0.symm
  clear h0
  rw [mkB_data]
  have htwo := edit_two (v := [119, 105, 100, 101, 110]) (w1 := w1') (l := l) (nx := nx) (by decide) (by decide +kernel) (by decide)
  rw [← HW.out] at htwo
  rcases numR_or w1' with ⟨hn, hr⟩ | ⟨id, hn, hr, hid0⟩
  ·rw [hn] at htwo
   have Hed := Lib.hid htwo
   rw [hr]
   clear htwo hr hn
   go_wp2_with fail
   go_ret
   rw [Hed.out]
   exact ⟨Chg.mono (hc02) (fun _ _ e => nbE e), rfl⟩
  ·rw [hn] at htwo
   rw [hr]
   dsimp only at htwo
   have Htwo := Lib.hid htwo
   clear hr hn htwo
   have hatl := atR_any its id (.slice a0 its.length c0) w2 _ (hI0.keep hc02 (fun _ _ => nbE))
   go_wp2_with fail
   refine hatl.mono ?_
   clear hatl
   rintro en w3 ⟨ra, rfl, hspec, h3⟩
   obtain rfl := h3.symm
   clear h3
   have hcase := at_law hR.rep hR.numb hspec
   clear hspec
   rcases hcase with ⟨hnone, rfl⟩ | ⟨q, jq, x, hfq, rfl, hjx, hxq, hxi, _, _⟩
   ·have hed : editW (wordsB line) l nx = .bad .non := by
     rw [Htwo.out]; unfold opF; rw [hnone]
    have Hed := Lib.hid hed
    clear hed hnone
    go_wp2_with fail
    go_ret
    rw [Hed.out]
    exact ⟨Chg.mono (hc02) (fun _ _ e => nbE e), rfl⟩
   ·have hop : opF (mkB [119, 105, 100, 101, 110]) ⟨#[]⟩ id 0 l nx = if q.kind = 2 then .ok (grpT id (setId id (kindTo 3)) l) nx else .bad .kind := by
     unfold opF; rw [hfq]
     dsimp only
     rw [if_neg (by decide), if_neg (by decide), if_neg (by decide), if_pos (by decide)]
    rw [← Htwo.out] at hop
    have Hop := Lib.hid hop
    have hjl : jq < its.length := (List.getElem?_eq_some_iff.1 hjx).1
    have hjI : ¬ ((jq : Nat) : Int) < 0 := by omega
    have hjI2 : ((jq : Nat) : Int) < (its.length : Int) := by omega
    have hilen : its.length ≤ 39 := Nat.le_trans (items_len hR) hw
    have HR := Lib.hid hR
    have Hfq := Lib.hid hfq
    have Hjx := Lib.hid hjx
    have hxp : x.n.kind = q.kind := by rw [hxq]; cases q; rfl
    have Hxi := Lib.hid hxi
    clear hop hfq hjx hxq hxi hR
    obtain ⟨ao, co, hv, hcs, hnn⟩ := (hI0.keep hc02 (fun _ _ => nbE)).src
    obtain ⟨rfl, -, rfl⟩ := Value.slice.inj hv
    have Hcs := Lib.hid hcs
    have Hnn := Lib.hid hnn
    clear hcs hnn hv
    go_wp2_with (at_builtin; refine stop_here ?_)
    refine Stop.go ?_
    refine wpList_own rfl (.tmp 76) (.tmp 80) 84 rfl w.heap.size 124 Tryz.underlying84 infoItem rfl (by decide) rfl (Own.nil w2 w.heap.size 124 6 (fun _ => False)) rfl (its.map It.dt) _ (by rw [List.length_map]) (it_chunks _ _ _) Hcs.out Hnn.out ?_ ?_ hc02.size ?_
    ·simp [maxLen]; omega
    ·simp; omega
    intro ao2 cp2 wB hoB hcB hatB
    simp only [List.length_nil, Nat.zero_add, List.nil_append] at hoB hcB hatB ⊢
    have hcB0 : Chg NoB w2 wB := hcB.mono (fun _ _ e => by cases e)
    have hcwB := hc02.tr hcB0
    replace g0 := (hcB0.cell (p := ⟨gb, 0, none⟩) (lt_of_at g0) nbE).trans g0
    replace g1 := (hcB0.cell (p := ⟨gb, 1, none⟩) (lt_of_at g1) nbE).trans g1
    replace z0' := (hcB0.cell (lt_of_at z0') nbE).trans z0'
    clear hcB hatB
    obtain ⟨g, cap, hv, hgB, hgl, hcl, hfz, hset⟩ := hoB.setIt Hjx.out 3 (by decide) (.int .i64 3) ⟨kindTo 3 x.n, x.ar⟩ (by obtain ⟨⟨i, nm, r, k, s⟩, a⟩ := x; rfl)
    obtain ⟨rfl, -, rfl⟩ := Value.slice.inj hv
    have hcl2 : wB.cell? ⟨g, jq * 6 + 3, none⟩ = some (.int .i64 q.kind) := by rw [hcl, ← hxp]; rfl
    clear hcl hv hxp
    have hcwS : Chg NoB w (wB.setCell ⟨g, jq * 6 + 3, none⟩ (.int .i64 3)) := hcwB.setCell (p := ⟨g, jq * 6 + 3, none⟩) (.inr hgB) _
    have g1s : (wB.setCell ⟨g, jq * 6 + 3, none⟩ (.int .i64 3)).cell? ⟨gb, 1, none⟩ = some (.int .i64 nx) := (hcwS.cell (p := ⟨gb, 1, none⟩) hgb nbE).trans (hb0.cell 1)
    by_cases hk : q.kind = 2
    ·have hkb : (q.kind != 2) = false := by rw [bne_eq_false_iff_eq]; exact hk
     have hed : editW (wordsB line) l nx = .ok (grpT id (setId id (kindTo 3)) l) nx := by rw [Hop.out, if_pos hk]
     have Hed := Lib.hid hed
     have hrdy : Rdy (its.map (itF id (kindTo 3))) (grpT id (setId id (kindTo 3)) l) nx := HR.out.widen Hfq.out hk
     have hmap : its.set jq ⟨kindTo 3 x.n, x.ar⟩ = its.map (itF id (kindTo 3)) := set_map HR.out.ids Hjx.out Hxi.out
     rw [hmap] at hset
     have hIS := hset.its (by rw [List.length_map]; omega)
     have hSX : ∀ b, (w.heap.size ≤ b ∧ b < (wB.setCell ⟨g, jq * 6 + 3, none⟩ (.int .i64 3)).heap.size) → b ≠ gb := fun b hb e => by have := hb.1; omega
     have Hrdy := Lib.hid hrdy
     have HhIS := Lib.hid hIS
     have HhSX := Lib.hid hSX
     clear hed hk hrdy hmap hset hIS hSX
     have hwf := editW_facts (line := line) hl ⟨hnx.1, by omega⟩ hS hw Hed.out
     have hok9 : (rootNd (grpT id (setId id (kindTo 3)) l)).ok := ⟨⟨by decide, by decide⟩, by decide, ⟨by decide, by decide⟩, ⟨by decide, by decide⟩, by have := weighs_len (grpT id (setId id (kindTo 3)) l); have := hwf.2.1; unfold reach; omega, all_ok hwf.1 (by have := hwf.2.1; omega)⟩
     have hbl := becomeR_law Hrdy.out (by omega) (hb0.keep hcwS nbE) HhIS.out HhSX.out hok9
     have Hbl := Lib.hid hbl
     clear hwf hok9 hbl
     go_wp2_with fail
     refine Hbl.out.mono ?_
     rintro en w9 ⟨hc9, rfl, h9⟩
     have H9 := Lib.hid h9
     clear h9
     go_wp2_with fail
     go_ret
     rw [Hed.out]
     exact ⟨(hcwS.mono (fun _ _ e => nbE e)).trans hc9 (fun _ e => .inl e), rfl, H9.out⟩
    ·have hkb : (q.kind != 2) = true := by rw [bne_iff_ne]; exact hk
     have hed : editW (wordsB line) l nx = .bad .kind := by rw [Hop.out, if_neg hk]
     have Hed := Lib.hid hed
     clear hed hk hset
     go_wp2_with fail
     go_ret
     rw [Hed.out]
     exact ⟨Chg.mono (hcwB) (fun _ _ e => nbE e), rfl⟩
 ·have hne : ((W.length : Int) + 1 != 2) = true := by rw [bne_iff_ne]; omega
  have hed : editW (wordsB line) l nx = .bad (.er .text) := by
   rw [HW.out]
   exact edit_short (n := 1) (by decide) (by decide +kernel) (by omega) (by decide)
  have Hed := Lib.hid hed
  clear hed
  have hc2 : Chg NoB w1 (w1.alloc (.cells #[.string ⟨#[100, 114, 111, 112]⟩, .string ⟨#[114, 101, 110, 97, 109, 101]⟩, .string ⟨#[109, 111, 118, 101]⟩, .string ⟨#[119, 105, 100, 101, 110]⟩, .string ⟨#[108, 111, 111, 115, 101, 110]⟩] 9)) := (Chg.refl _ _).alloc _
  have z0' := (hc2.cell (lt_of_at z0) nbE).trans z0
  have hb2 : Blk (w1.alloc (.cells #[.string ⟨#[100, 114, 111, 112]⟩, .string ⟨#[114, 101, 110, 97, 109, 101]⟩, .string ⟨#[109, 111, 118, 101]⟩, .string ⟨#[119, 105, 100, 101, 110]⟩, .string ⟨#[108, 111, 111, 115, 101, 110]⟩] 9)) w1.heap.size (verbs.map Value.string) 9 := Blk.newAt rfl
  go_wp2_with fail
  generalize World.alloc w1 _ = w2 at hc2 z0' hb2 ⊢
  refine (hasIndex_any verbs (mkB [119, 105, 100, 101, 110]) w1.heap.size 0 5 w2 (by decide) (fun j z hz => by
   rw [Nat.zero_add, hb2.cell j, List.getElem?_map, hz]
   rfl)).mono ?_
  rintro en w3 ⟨rfl, h0⟩
  obtain rfl := h0.symm
  clear h0
  rw [show Lib.idxOfS verbs (mkB [119, 105, 100, 101, 110]) = 3 from by decide +kernel]
  replace g0 := (hc2.cell (p := ⟨gb, 0, none⟩) (lt_of_at g0) nbE).trans g0
  replace g1 := (hc2.cell (p := ⟨gb, 1, none⟩) (lt_of_at g1) nbE).trans g1
  have hc02 := hc1.tr hc2
  clear z0 hb2
  go_wp2_with fail
  go_ret
  rw [Hed.out]
  exact ⟨Chg.mono (hc02) (fun _ _ e => nbE e), rfl⟩
theorem editR_loosen (line : ByteArray) (W : List (List UInt8)) (its : List It) (l : List Nd) (nx : Int) (gb : Nat) (w : World) (hI : EdIn line its l nx gb w) (hW : wordsB line = ([108, 111, 111, 115, 101, 110] :: W).map mkB) :
  Calls Tryz.prog 41 #[.pointer (some ⟨gb, 0, none⟩), .string line] w (RetEdR gb (editW (wordsB line) l nx) w) := by
 obtain ⟨hl, hR, hS, hw, hnx, hlt, hL⟩ := hI
 have hL2 := hL
 have f0 := beq_no (show ([108, 111, 111, 115, 101, 110] : List UInt8) ≠ [97, 100, 100] by decide)
 have f1 := beq_no (show ([108, 111, 111, 115, 101, 110] : List UInt8) ≠ [100, 114, 111, 112] by decide)
 have f2 := beq_no (show ([108, 111, 111, 115, 101, 110] : List UInt8) ≠ [114, 101, 110, 97, 109, 101] by decide)
 have f3 := beq_no (show ([108, 111, 111, 115, 101, 110] : List UInt8) ≠ [109, 111, 118, 101] by decide)
 have f4 := beq_no (show ([108, 111, 111, 115, 101, 110] : List UInt8) ≠ [119, 105, 100, 101, 110] by decide)
 have f5 : ((mkB [108, 111, 111, 115, 101, 110]).toList == [108, 111, 111, 115, 101, 110]) = true := by rw [Lib.toList_data]; rfl
 obtain ⟨v0, hb0, hI0⟩ := hL
 have g0 : w.cell? ⟨gb, 0, none⟩ = some v0 := hb0.cell 0
 have g1 : w.cell? ⟨gb, 1, none⟩ = some (.int .i64 nx) := hb0.cell 1
 have hgb := hb0.lt
 obtain ⟨a0, c0, rfl, hlc, hcm, _⟩ := hI0.form
 have HLT := Lib.hid hlt
 have HW := Lib.hid hW
 clear hlt
 go_enter Tryz.func41, Tryz.ntmps41
 go_wp2_with fail
 refine (wordsR_any line w (by omega)).mono ?_
 rintro en w1 ⟨v1, rfl, ho1, hc1⟩
 obtain ⟨ob, off, cap, rfl, hcw⟩ := words_cells HW.out (by have := words_count line; rw [HW.out, List.length_map] at this; omega) ho1
 replace g0 := (hc1.cell (p := ⟨gb, 0, none⟩) hgb nbE).trans g0
 replace g1 := (hc1.cell (p := ⟨gb, 1, none⟩) hgb nbE).trans g1
 have z0 := hcw 0 _ rfl
 rw [Nat.add_zero] at z0
 have Hcw := Lib.hid hcw
 clear hcw ho1 hW
 have hWl : (([108, 111, 111, 115, 101, 110] : List UInt8) :: W).length = W.length + 1 := rfl
 rw [hWl]
 clear hWl
 by_cases hlen : W.length = 1
 ·obtain ⟨w1', rfl⟩ : ∃ x, W = [x] := List.length_eq_one_iff.1 hlen
  have z1 := Hcw.out 1 _ rfl
  have hs1 := words_small HW.out w1' (by simp)
  simp only [List.length_cons, List.length_nil] at *
  have hc2 : Chg NoB w1 (w1.alloc (.cells #[.string ⟨#[100, 114, 111, 112]⟩, .string ⟨#[114, 101, 110, 97, 109, 101]⟩, .string ⟨#[109, 111, 118, 101]⟩, .string ⟨#[119, 105, 100, 101, 110]⟩, .string ⟨#[108, 111, 111, 115, 101, 110]⟩] 9)) := (Chg.refl _ _).alloc _
  have z0' := (hc2.cell (lt_of_at z0) nbE).trans z0
  have hb2 : Blk (w1.alloc (.cells #[.string ⟨#[100, 114, 111, 112]⟩, .string ⟨#[114, 101, 110, 97, 109, 101]⟩, .string ⟨#[109, 111, 118, 101]⟩, .string ⟨#[119, 105, 100, 101, 110]⟩, .string ⟨#[108, 111, 111, 115, 101, 110]⟩] 9)) w1.heap.size (verbs.map Value.string) 9 := Blk.newAt rfl
  go_wp2_with fail
  generalize World.alloc w1 _ = w2 at hc2 z0' hb2 ⊢
  refine (hasIndex_any verbs (mkB [108, 111, 111, 115, 101, 110]) w1.heap.size 0 5 w2 (by decide) (fun j z hz => by
   rw [Nat.zero_add, hb2.cell j, List.getElem?_map, hz]
   rfl)).mono ?_
  rintro en w3 ⟨rfl, h0⟩
  obtain rfl := h0.symm
  clear h0
  rw [show Lib.idxOfS verbs (mkB [108, 111, 111, 115, 101, 110]) = 4 from by decide +kernel]
  replace g0 := (hc2.cell (p := ⟨gb, 0, none⟩) (lt_of_at g0) nbE).trans g0
  replace g1 := (hc2.cell (p := ⟨gb, 1, none⟩) (lt_of_at g1) nbE).trans g1
  have hc02 := hc1.tr hc2
  clear z0 hb2
  replace z1 := (hc2.cell (lt_of_at z1) nbE).trans z1
  go_wp2_with fail
  refine (numberOf_gen (mkB w1') w2 (by rw [mkB_sz]; omega)).mono ?_
  rintro en w3 ⟨rfl, h0⟩
  obtain rfl := h0.symm
  clear h0
  rw [mkB_data]
  have htwo := edit_two (v := [108, 111, 111, 115, 101, 110]) (w1 := w1') (l := l) (nx := nx) (by decide) (by decide +kernel) (by decide)
  rw [← HW.out] at htwo
  rcases numR_or w1' with ⟨hn, hr⟩ | ⟨id, hn, hr, hid0⟩
  ·rw [hn] at htwo
   have Hed := Lib.hid htwo
   rw [hr]
   clear htwo hr hn
   go_wp2_with fail
   go_ret
   rw [Hed.out]
   exact ⟨Chg.mono (hc02) (fun _ _ e => nbE e), rfl⟩
  ·rw [hn] at htwo
   rw [hr]
   dsimp only at htwo
   have Htwo := Lib.hid htwo
   clear hr hn htwo
   have hatl := atR_any its id (.slice a0 its.length c0) w2 _ (hI0.keep hc02 (fun _ _ => nbE))
   go_wp2_with fail
   refine hatl.mono ?_
   clear hatl
   rintro en w3 ⟨ra, rfl, hspec, h3⟩
   obtain rfl := h3.symm
   clear h3
   have hcase := at_law hR.rep hR.numb hspec
   clear hspec
   rcases hcase with ⟨hnone, rfl⟩ | ⟨q, jq, x, hfq, rfl, hjx, hxq, hxi, _, _⟩
   ·have hed : editW (wordsB line) l nx = .bad .non := by
     rw [Htwo.out]; unfold opF; rw [hnone]
    have Hed := Lib.hid hed
    clear hed hnone
    go_wp2_with fail
    go_ret
    rw [Hed.out]
    exact ⟨Chg.mono (hc02) (fun _ _ e => nbE e), rfl⟩
   ·have hop : opF (mkB [108, 111, 111, 115, 101, 110]) ⟨#[]⟩ id 0 l nx = if q.rep = 1 then .ok (grpT id (setId id (repTo 2)) l) nx else .bad .kind := by
     unfold opF; rw [hfq]
     dsimp only
     rw [if_neg (by decide), if_neg (by decide), if_neg (by decide), if_neg (by decide)]
    rw [← Htwo.out] at hop
    have Hop := Lib.hid hop
    have hjl : jq < its.length := (List.getElem?_eq_some_iff.1 hjx).1
    have hjI : ¬ ((jq : Nat) : Int) < 0 := by omega
    have hjI2 : ((jq : Nat) : Int) < (its.length : Int) := by omega
    have hilen : its.length ≤ 39 := Nat.le_trans (items_len hR) hw
    have HR := Lib.hid hR
    have Hfq := Lib.hid hfq
    have Hjx := Lib.hid hjx
    have hxp : x.n.rep = q.rep := by rw [hxq]; cases q; rfl
    have Hxi := Lib.hid hxi
    clear hop hfq hjx hxq hxi hR
    obtain ⟨ao, co, hv, hcs, hnn⟩ := (hI0.keep hc02 (fun _ _ => nbE)).src
    obtain ⟨rfl, -, rfl⟩ := Value.slice.inj hv
    have Hcs := Lib.hid hcs
    have Hnn := Lib.hid hnn
    clear hcs hnn hv
    go_wp2_with (at_builtin; refine stop_here ?_)
    refine Stop.go ?_
    refine wpList_own rfl (.tmp 76) (.tmp 80) 84 rfl w.heap.size 124 Tryz.underlying84 infoItem rfl (by decide) rfl (Own.nil w2 w.heap.size 124 6 (fun _ => False)) rfl (its.map It.dt) _ (by rw [List.length_map]) (it_chunks _ _ _) Hcs.out Hnn.out ?_ ?_ hc02.size ?_
    ·simp [maxLen]; omega
    ·simp; omega
    intro ao2 cp2 wB hoB hcB hatB
    simp only [List.length_nil, Nat.zero_add, List.nil_append] at hoB hcB hatB ⊢
    have hcB0 : Chg NoB w2 wB := hcB.mono (fun _ _ e => by cases e)
    have hcwB := hc02.tr hcB0
    replace g0 := (hcB0.cell (p := ⟨gb, 0, none⟩) (lt_of_at g0) nbE).trans g0
    replace g1 := (hcB0.cell (p := ⟨gb, 1, none⟩) (lt_of_at g1) nbE).trans g1
    replace z0' := (hcB0.cell (lt_of_at z0') nbE).trans z0'
    clear hcB hatB
    obtain ⟨g, cap, hv, hgB, hgl, hcl, hfz, hset⟩ := hoB.setIt Hjx.out 2 (by decide) (.int .i64 2) ⟨repTo 2 x.n, x.ar⟩ (by obtain ⟨⟨i, nm, r, k, s⟩, a⟩ := x; rfl)
    obtain ⟨rfl, -, rfl⟩ := Value.slice.inj hv
    have hcl2 : wB.cell? ⟨g, jq * 6 + 2, none⟩ = some (.int .i64 q.rep) := by rw [hcl, ← hxp]; rfl
    clear hcl hv hxp
    have hcwS : Chg NoB w (wB.setCell ⟨g, jq * 6 + 2, none⟩ (.int .i64 2)) := hcwB.setCell (p := ⟨g, jq * 6 + 2, none⟩) (.inr hgB) _
    have g1s : (wB.setCell ⟨g, jq * 6 + 2, none⟩ (.int .i64 2)).cell? ⟨gb, 1, none⟩ = some (.int .i64 nx) := (hcwS.cell (p := ⟨gb, 1, none⟩) hgb nbE).trans (hb0.cell 1)
    by_cases hk : q.rep = 1
    ·have hkb : (q.rep != 1) = false := by rw [bne_eq_false_iff_eq]; exact hk
     have hed : editW (wordsB line) l nx = .ok (grpT id (setId id (repTo 2)) l) nx := by rw [Hop.out, if_pos hk]
     have Hed := Lib.hid hed
     have hrdy : Rdy (its.map (itF id (repTo 2))) (grpT id (setId id (repTo 2)) l) nx := HR.out.loosen 2
     have hmap : its.set jq ⟨repTo 2 x.n, x.ar⟩ = its.map (itF id (repTo 2)) := set_map HR.out.ids Hjx.out Hxi.out
     rw [hmap] at hset
     have hIS := hset.its (by rw [List.length_map]; omega)
     have hSX : ∀ b, (w.heap.size ≤ b ∧ b < (wB.setCell ⟨g, jq * 6 + 2, none⟩ (.int .i64 2)).heap.size) → b ≠ gb := fun b hb e => by have := hb.1; omega
     have Hrdy := Lib.hid hrdy
     have HhIS := Lib.hid hIS
     have HhSX := Lib.hid hSX
     clear hed hk hrdy hmap hset hIS hSX
     have hwf := editW_facts (line := line) hl ⟨hnx.1, by omega⟩ hS hw Hed.out
     have hok9 : (rootNd (grpT id (setId id (repTo 2)) l)).ok := ⟨⟨by decide, by decide⟩, by decide, ⟨by decide, by decide⟩, ⟨by decide, by decide⟩, by have := weighs_len (grpT id (setId id (repTo 2)) l); have := hwf.2.1; unfold reach; omega, all_ok hwf.1 (by have := hwf.2.1; omega)⟩
     have hbl := becomeR_law Hrdy.out (by omega) (hb0.keep hcwS nbE) HhIS.out HhSX.out hok9
     have Hbl := Lib.hid hbl
     clear hwf hok9 hbl
     go_wp2_with fail
     refine Hbl.out.mono ?_
     rintro en w9 ⟨hc9, rfl, h9⟩
     have H9 := Lib.hid h9
     clear h9
     go_wp2_with fail
     go_ret
     rw [Hed.out]
     exact ⟨(hcwS.mono (fun _ _ e => nbE e)).trans hc9 (fun _ e => .inl e), rfl, H9.out⟩
    ·have hkb : (q.rep != 1) = true := by rw [bne_iff_ne]; exact hk
     have hed : editW (wordsB line) l nx = .bad .kind := by rw [Hop.out, if_neg hk]
     have Hed := Lib.hid hed
     clear hed hk hset
     go_wp2_with fail
     go_ret
     rw [Hed.out]
     exact ⟨Chg.mono (hcwB) (fun _ _ e => nbE e), rfl⟩
 ·have hne : ((W.length : Int) + 1 != 2) = true := by rw [bne_iff_ne]; omega
  have hed : editW (wordsB line) l nx = .bad (.er .text) := by
   rw [HW.out]
   exact edit_short (n := 1) (by decide) (by decide +kernel) (by omega) (by decide)
  have Hed := Lib.hid hed
  clear hed
  have hc2 : Chg NoB w1 (w1.alloc (.cells #[.string ⟨#[100, 114, 111, 112]⟩, .string ⟨#[114, 101, 110, 97, 109, 101]⟩, .string ⟨#[109, 111, 118, 101]⟩, .string ⟨#[119, 105, 100, 101, 110]⟩, .string ⟨#[108, 111, 111, 115, 101, 110]⟩] 9)) := (Chg.refl _ _).alloc _
  have z0' := (hc2.cell (lt_of_at z0) nbE).trans z0
  have hb2 : Blk (w1.alloc (.cells #[.string ⟨#[100, 114, 111, 112]⟩, .string ⟨#[114, 101, 110, 97, 109, 101]⟩, .string ⟨#[109, 111, 118, 101]⟩, .string ⟨#[119, 105, 100, 101, 110]⟩, .string ⟨#[108, 111, 111, 115, 101, 110]⟩] 9)) w1.heap.size (verbs.map Value.string) 9 := Blk.newAt rfl
  go_wp2_with fail
  generalize World.alloc w1 _ = w2 at hc2 z0' hb2 ⊢
  refine (hasIndex_any verbs (mkB [108, 111, 111, 115, 101, 110]) w1.heap.size 0 5 w2 (by decide) (fun j z hz => by
   rw [Nat.zero_add, hb2.cell j, List.getElem?_map, hz]
   rfl)).mono ?_
  rintro en w3 ⟨rfl, h0⟩
  obtain rfl := h0.symm
  clear h0
  rw [show Lib.idxOfS verbs (mkB [108, 111, 111, 115, 101, 110]) = 4 from by decide +kernel]
  replace g0 := (hc2.cell (p := ⟨gb, 0, none⟩) (lt_of_at g0) nbE).trans g0
  replace g1 := (hc2.cell (p := ⟨gb, 1, none⟩) (lt_of_at g1) nbE).trans g1
  have hc02 := hc1.tr hc2
  clear z0 hb2
  go_wp2_with fail
  go_ret
  rw [Hed.out]
  exact ⟨Chg.mono (hc02) (fun _ _ e => nbE e), rfl⟩
theorem edit_three {v w1 w2 : List UInt8} {l : List Nd} {nx : Int} (ha : mkB v ≠ bAdd) (hm : manyF (mkB v) = some 2) (hv : mkB v ≠ bMove) : editW (([v, w1, w2] : List (List UInt8)).map mkB) l nx = match numF w1 with
  | none => .bad (.er .text)
  | some id => opF (mkB v) (mkB w2) id 0 l nx := by
 simp only [List.map_cons, List.map_nil, editW]
 rw [if_neg (fun e => ha e.1), hm]
 dsimp only
 rw [if_neg (by simp), mkB_data]
 cases numF w1 with
 | none => rfl
 | some id =>
  dsimp only
  rw [if_neg hv]; rfl
theorem editR_rename (line : ByteArray) (W : List (List UInt8)) (its : List It) (l : List Nd) (nx : Int) (gb : Nat) (w : World) (hI : EdIn line its l nx gb w) (hW : wordsB line = ([114, 101, 110, 97, 109, 101] :: W).map mkB) :
  Calls Tryz.prog 41 #[.pointer (some ⟨gb, 0, none⟩), .string line] w (RetEdR gb (editW (wordsB line) l nx) w) := by
 obtain ⟨hl, hR, hS, hw, hnx, hlt, hL⟩ := hI
 have hL2 := hL
 have f0 := beq_no (show ([114, 101, 110, 97, 109, 101] : List UInt8) ≠ [97, 100, 100] by decide)
 have f1 := beq_no (show ([114, 101, 110, 97, 109, 101] : List UInt8) ≠ [100, 114, 111, 112] by decide)
 have f2 : ((mkB [114, 101, 110, 97, 109, 101]).toList == [114, 101, 110, 97, 109, 101]) = true := by rw [Lib.toList_data]; rfl
 have f3 := beq_no (show ([114, 101, 110, 97, 109, 101] : List UInt8) ≠ [109, 111, 118, 101] by decide)
 have f4 := beq_no (show ([114, 101, 110, 97, 109, 101] : List UInt8) ≠ [119, 105, 100, 101, 110] by decide)
 have f5 := beq_no (show ([114, 101, 110, 97, 109, 101] : List UInt8) ≠ [108, 111, 111, 115, 101, 110] by decide)
 obtain ⟨v0, hb0, hI0⟩ := hL
 have g0 : w.cell? ⟨gb, 0, none⟩ = some v0 := hb0.cell 0
 have g1 : w.cell? ⟨gb, 1, none⟩ = some (.int .i64 nx) := hb0.cell 1
 have hgb := hb0.lt
 obtain ⟨a0, c0, rfl, hlc, hcm, _⟩ := hI0.form
 have HLT := Lib.hid hlt
 have HW := Lib.hid hW
 clear hlt
 go_enter Tryz.func41, Tryz.ntmps41
 go_wp2_with fail
 refine (wordsR_any line w (by omega)).mono ?_
 rintro en w1 ⟨v1, rfl, ho1, hc1⟩
 obtain ⟨ob, off, cap, rfl, hcw⟩ := words_cells HW.out (by have := words_count line; rw [HW.out, List.length_map] at this; omega) ho1
 replace g0 := (hc1.cell (p := ⟨gb, 0, none⟩) hgb nbE).trans g0
 replace g1 := (hc1.cell (p := ⟨gb, 1, none⟩) hgb nbE).trans g1
 have z0 := hcw 0 _ rfl
 rw [Nat.add_zero] at z0
 have Hcw := Lib.hid hcw
 clear hcw ho1 hW
 have hWl : (([114, 101, 110, 97, 109, 101] : List UInt8) :: W).length = W.length + 1 := rfl
 rw [hWl]
 clear hWl
 by_cases hlen : W.length = 2
 ·obtain ⟨w1', w2', rfl⟩ : ∃ x y, W = [x, y] := by
   match W, hlen with
   | [x, y], _ => exact ⟨x, y, rfl⟩
  have z1 := Hcw.out 1 _ rfl
  have z2 := Hcw.out 2 _ rfl
  have hs1 := words_small HW.out w1' (by simp)
  have hs2 := words_small HW.out w2' (by simp)
  simp only [List.length_cons, List.length_nil] at *
  have hc2 : Chg NoB w1 (w1.alloc (.cells #[.string ⟨#[100, 114, 111, 112]⟩, .string ⟨#[114, 101, 110, 97, 109, 101]⟩, .string ⟨#[109, 111, 118, 101]⟩, .string ⟨#[119, 105, 100, 101, 110]⟩, .string ⟨#[108, 111, 111, 115, 101, 110]⟩] 9)) := (Chg.refl _ _).alloc _
  have z0' := (hc2.cell (lt_of_at z0) nbE).trans z0
  have hb2 : Blk (w1.alloc (.cells #[.string ⟨#[100, 114, 111, 112]⟩, .string ⟨#[114, 101, 110, 97, 109, 101]⟩, .string ⟨#[109, 111, 118, 101]⟩, .string ⟨#[119, 105, 100, 101, 110]⟩, .string ⟨#[108, 111, 111, 115, 101, 110]⟩] 9)) w1.heap.size (verbs.map Value.string) 9 := Blk.newAt rfl
  go_wp2_with fail
  generalize World.alloc w1 _ = w2 at hc2 z0' hb2 ⊢
  refine (hasIndex_any verbs (mkB [114, 101, 110, 97, 109, 101]) w1.heap.size 0 5 w2 (by decide) (fun j z hz => by
   rw [Nat.zero_add, hb2.cell j, List.getElem?_map, hz]
   rfl)).mono ?_
  rintro en w3 ⟨rfl, h0⟩
  obtain rfl := h0.symm
  clear h0
  rw [show Lib.idxOfS verbs (mkB [114, 101, 110, 97, 109, 101]) = 1 from by decide +kernel]
  replace g0 := (hc2.cell (p := ⟨gb, 0, none⟩) (lt_of_at g0) nbE).trans g0
  replace g1 := (hc2.cell (p := ⟨gb, 1, none⟩) (lt_of_at g1) nbE).trans g1
  have hc02 := hc1.tr hc2
  clear z0 hb2
  replace z1 := (hc2.cell (lt_of_at z1) nbE).trans z1
  replace z2 := (hc2.cell (lt_of_at z2) nbE).trans z2
  go_wp2_with fail
  refine (numberOf_gen (mkB w1') w2 (by rw [mkB_sz]; omega)).mono ?_
  rintro en w3 ⟨rfl, h0⟩
  obtain rfl := h0.symm
  clear h0
  rw [mkB_data]
  have htwo := edit_three (v := [114, 101, 110, 97, 109, 101]) (w1 := w1') (w2 := w2') (l := l) (nx := nx) (by decide) (by decide +kernel) (by decide)
  rw [← HW.out] at htwo
  rcases numR_or w1' with ⟨hn, hr⟩ | ⟨id, hn, hr, hid0⟩
  ·rw [hn] at htwo
   have Hed := Lib.hid htwo
   rw [hr]
   clear htwo hr hn
   go_wp2_with fail
   go_ret
   rw [Hed.out]
   exact ⟨Chg.mono (hc02) (fun _ _ e => nbE e), rfl⟩
  ·rw [hn] at htwo
   rw [hr]
   dsimp only at htwo
   have Htwo := Lib.hid htwo
   clear hr hn htwo
   have hatl := atR_any its id (.slice a0 its.length c0) w2 _ (hI0.keep hc02 (fun _ _ => nbE))
   go_wp2_with fail
   refine hatl.mono ?_
   clear hatl
   rintro en w3 ⟨ra, rfl, hspec, h3⟩
   obtain rfl := h3.symm
   clear h3
   have hcase := at_law hR.rep hR.numb hspec
   clear hspec
   rcases hcase with ⟨hnone, rfl⟩ | ⟨q, jq, x, hfq, rfl, hjx, hxq, hxi, _, _⟩
   ·have hed : editW (wordsB line) l nx = .bad .non := by
     rw [Htwo.out]; unfold opF; rw [hnone]
    have Hed := Lib.hid hed
    clear hed hnone
    go_wp2_with fail
    go_ret
    rw [Hed.out]
    exact ⟨Chg.mono (hc02) (fun _ _ e => nbE e), rfl⟩
   ·have hop : opF (mkB [114, 101, 110, 97, 109, 101]) (mkB w2') id 0 l nx = if isNameB (mkB w2') = true then .ok (grpT id (setId id (renTo (mkB w2'))) l) nx else .bad (.er .name) := by
     unfold opF; rw [hfq]
     dsimp only
     rw [if_neg (by decide), if_pos (by decide)]
    rw [← Htwo.out] at hop
    have Hop := Lib.hid hop
    have hjl : jq < its.length := (List.getElem?_eq_some_iff.1 hjx).1
    have hjI : ¬ ((jq : Nat) : Int) < 0 := by omega
    have hjI2 : ((jq : Nat) : Int) < (its.length : Int) := by omega
    have hilen : its.length ≤ 39 := Nat.le_trans (items_len hR) hw
    have HR := Lib.hid hR
    have Hfq := Lib.hid hfq
    have Hjx := Lib.hid hjx
    have Hxi := Lib.hid hxi
    clear hop hfq hjx hxq hxi hR
    obtain ⟨ao, co, hv, hcs, hnn⟩ := (hI0.keep hc02 (fun _ _ => nbE)).src
    obtain ⟨rfl, -, rfl⟩ := Value.slice.inj hv
    have Hcs := Lib.hid hcs
    have Hnn := Lib.hid hnn
    clear hcs hnn hv
    go_wp2_with (at_builtin; refine stop_here ?_)
    refine Stop.go ?_
    refine wpList_own rfl (.tmp 76) (.tmp 80) 84 rfl w.heap.size 124 Tryz.underlying84 infoItem rfl (by decide) rfl (Own.nil w2 w.heap.size 124 6 (fun _ => False)) rfl (its.map It.dt) _ (by rw [List.length_map]) (it_chunks _ _ _) Hcs.out Hnn.out ?_ ?_ hc02.size ?_
    ·simp [maxLen]; omega
    ·simp; omega
    intro ao2 cp2 wB hoB hcB hatB
    simp only [List.length_nil, Nat.zero_add, List.nil_append] at hoB hcB hatB ⊢
    have hcB0 : Chg NoB w2 wB := hcB.mono (fun _ _ e => by cases e)
    have hcwB := hc02.tr hcB0
    replace g0 := (hcB0.cell (p := ⟨gb, 0, none⟩) (lt_of_at g0) nbE).trans g0
    replace g1 := (hcB0.cell (p := ⟨gb, 1, none⟩) (lt_of_at g1) nbE).trans g1
    replace z0' := (hcB0.cell (lt_of_at z0') nbE).trans z0'
    clear hcB hatB
    replace z2 := (hcB0.cell (lt_of_at z2) nbE).trans z2
    go_wp2_with fail
    refine (isName2_any (mkB w2') wB (by rw [mkB_sz]; omega)).mono ?_
    rintro en w6 ⟨rfl, h0⟩
    obtain rfl := h0.symm
    clear h0
    cases hnm : isNameB (mkB w2') with
    | false =>
     have hed : editW (wordsB line) l nx = .bad (.er .name) := by rw [Hop.out, hnm]; rfl
     have Hed := Lib.hid hed
     clear hed hnm
     go_wp2_with fail
     go_ret
     rw [Hed.out]
     exact ⟨Chg.mono (hcwB) (fun _ _ e => nbE e), rfl⟩
    | true =>
     have hed : editW (wordsB line) l nx = .ok (grpT id (setId id (renTo (mkB w2'))) l) nx := by rw [Hop.out, if_pos hnm]
     have Hed := Lib.hid hed
     clear hed hnm
     obtain ⟨g, cap, hv, hgB, hgl, hcl, hfz, hset⟩ := hoB.setIt Hjx.out 1 (by decide) (.string (mkB w2')) ⟨renTo (mkB w2') x.n, x.ar⟩ (by obtain ⟨⟨i, nm, r, k, s⟩, a⟩ := x; rfl)
     obtain ⟨rfl, -, rfl⟩ := Value.slice.inj hv
     have hcl2 : wB.cell? ⟨g, jq * 6 + 1, none⟩ = some (.string x.n.name) := by rw [hcl]; rfl
     clear hcl hv
     have hcwS : Chg NoB w (wB.setCell ⟨g, jq * 6 + 1, none⟩ (.string (mkB w2'))) := hcwB.setCell (p := ⟨g, jq * 6 + 1, none⟩) (.inr hgB) _
     have g1s : (wB.setCell ⟨g, jq * 6 + 1, none⟩ (.string (mkB w2'))).cell? ⟨gb, 1, none⟩ = some (.int .i64 nx) := (hcwS.cell (p := ⟨gb, 1, none⟩) hgb nbE).trans (hb0.cell 1)
     have hrdy : Rdy (its.map (itF id (renTo (mkB w2')))) (grpT id (setId id (renTo (mkB w2'))) l) nx := HR.out.rename _
     have hmap : its.set jq ⟨renTo (mkB w2') x.n, x.ar⟩ = its.map (itF id (renTo (mkB w2'))) := set_map HR.out.ids Hjx.out Hxi.out
     rw [hmap] at hset
     have hIS := hset.its (by rw [List.length_map]; omega)
     have hSX : ∀ b, (w.heap.size ≤ b ∧ b < (wB.setCell ⟨g, jq * 6 + 1, none⟩ (.string (mkB w2'))).heap.size) → b ≠ gb := fun b hb e => by have := hb.1; omega
     have Hrdy := Lib.hid hrdy
     have HhIS := Lib.hid hIS
     have HhSX := Lib.hid hSX
     clear hrdy hmap hset hIS hSX
     have hwf := editW_facts (line := line) hl ⟨hnx.1, by omega⟩ hS hw Hed.out
     have hok9 : (rootNd (grpT id (setId id (renTo (mkB w2'))) l)).ok := ⟨⟨by decide, by decide⟩, by decide, ⟨by decide, by decide⟩, ⟨by decide, by decide⟩, by have := weighs_len (grpT id (setId id (renTo (mkB w2'))) l); have := hwf.2.1; unfold reach; omega, all_ok hwf.1 (by have := hwf.2.1; omega)⟩
     have hbl := becomeR_law Hrdy.out (by omega) (hb0.keep hcwS nbE) HhIS.out HhSX.out hok9
     have Hbl := Lib.hid hbl
     clear hwf hok9 hbl
     go_wp2_with fail
     refine Hbl.out.mono ?_
     rintro en w9 ⟨hc9, rfl, h9⟩
     have H9 := Lib.hid h9
     clear h9
     go_wp2_with fail
     go_ret
     rw [Hed.out]
     exact ⟨(hcwS.mono (fun _ _ e => nbE e)).trans hc9 (fun _ e => .inl e), rfl, H9.out⟩
 ·have hne : ((W.length : Int) + 1 != 3) = true := by rw [bne_iff_ne]; omega
  have hed : editW (wordsB line) l nx = .bad (.er .text) := by
   rw [HW.out]
   exact edit_short (n := 2) (by decide) (by decide +kernel) (by omega) (by decide)
  have Hed := Lib.hid hed
  clear hed
  have hc2 : Chg NoB w1 (w1.alloc (.cells #[.string ⟨#[100, 114, 111, 112]⟩, .string ⟨#[114, 101, 110, 97, 109, 101]⟩, .string ⟨#[109, 111, 118, 101]⟩, .string ⟨#[119, 105, 100, 101, 110]⟩, .string ⟨#[108, 111, 111, 115, 101, 110]⟩] 9)) := (Chg.refl _ _).alloc _
  have z0' := (hc2.cell (lt_of_at z0) nbE).trans z0
  have hb2 : Blk (w1.alloc (.cells #[.string ⟨#[100, 114, 111, 112]⟩, .string ⟨#[114, 101, 110, 97, 109, 101]⟩, .string ⟨#[109, 111, 118, 101]⟩, .string ⟨#[119, 105, 100, 101, 110]⟩, .string ⟨#[108, 111, 111, 115, 101, 110]⟩] 9)) w1.heap.size (verbs.map Value.string) 9 := Blk.newAt rfl
  go_wp2_with fail
  generalize World.alloc w1 _ = w2 at hc2 z0' hb2 ⊢
  refine (hasIndex_any verbs (mkB [114, 101, 110, 97, 109, 101]) w1.heap.size 0 5 w2 (by decide) (fun j z hz => by
   rw [Nat.zero_add, hb2.cell j, List.getElem?_map, hz]
   rfl)).mono ?_
  rintro en w3 ⟨rfl, h0⟩
  obtain rfl := h0.symm
  clear h0
  rw [show Lib.idxOfS verbs (mkB [114, 101, 110, 97, 109, 101]) = 1 from by decide +kernel]
  replace g0 := (hc2.cell (p := ⟨gb, 0, none⟩) (lt_of_at g0) nbE).trans g0
  replace g1 := (hc2.cell (p := ⟨gb, 1, none⟩) (lt_of_at g1) nbE).trans g1
  have hc02 := hc1.tr hc2
  clear z0 hb2
  go_wp2_with fail
  go_ret
  rw [Hed.out]
  exact ⟨Chg.mono (hc02) (fun _ _ e => nbE e), rfl⟩
end Go.Proofs.YtgcmfpcgmkkobaaGreatDoor
