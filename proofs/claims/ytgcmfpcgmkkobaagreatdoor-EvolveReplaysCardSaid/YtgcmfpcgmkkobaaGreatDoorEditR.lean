/-
  The document's Edit.
-/
import Derived.Test.YtgcmfpcgmkkobaaGreatDoorAddR
import Derived.Test.YtgcmfpcgmkkobaaGreatDoorWordsR
set_option linter.unusedVariables false
set_option maxHeartbeats 20000000
set_option maxRecDepth 100000
set_option linter.unusedSimpArgs false
namespace Go.Proofs.YtgcmfpcgmkkobaaGreatDoor
open Go.RowKit
theorem words_cells {line : ByteArray} {W : List (List UInt8)} {w0 : List UInt8} {w : World} {B : Nat} {v : Value} (hW : wordsB line = (w0 :: W).map mkB) (hl : (w0 :: W).length ≤ 100000) (h : Own w B 9 1 (fun _ => False) v ((wordsB line).map strDt)) :
  ∃ b off cap, v = .slice (some ⟨b, off, none⟩) (w0 :: W).length cap ∧ ∀ (j : Nat) (x : List UInt8), (w0 :: W)[j]? = some x → w.cell? ⟨b, off + j, none⟩ = some (.string (mkB x)) := by
 rw [hW] at h
 have hrd := h.reads (S' := fun _ => True) (fun _ _ => trivial) (fun _ _ _ => trivial) (by rw [List.length_map, List.length_map]; unfold maxLen; omega)
 obtain ⟨a, cap, hv, hlen, hcap, hel⟩ := reads_list hrd
 rw [List.length_map, List.length_map] at hv hlen hel
 obtain ⟨b, off, rfl, _, _, hE⟩ := hel (by simp)
 refine ⟨b, off, cap, hv, fun j x hj => ?_⟩
 obtain ⟨cs, h5, h6, h7⟩ := hE.get j (strDt (mkB x)) (by rw [List.getElem?_map, List.getElem?_map, hj]; rfl)
 obtain ⟨rfl, _⟩ := h7
 have := h6 0 _ rfl
 simpa using this
theorem words_small {line : ByteArray} {W : List (List UInt8)} (hW : wordsB line = W.map mkB) : ∀ x ∈ W, x.length ≤ line.size := by
 intro x hx
 have h := words_size line (mkB x) (by rw [hW]; exact List.mem_map_of_mem hx)
 rwa [mkB_sz] at h
structure EdIn (line : ByteArray) (its : List It) (l : List Nd) (nx : Int) (gb : Nat) (w : World) : Prop where
 size : line.size ≤ 10000
 rdy : Rdy its l nx
 slim : Nd.Alls Slim l
 few : Nd.weighs l ≤ 39
 next : 1 ≤ nx ∧ nx ≤ 500000
 lt : ∀ x ∈ idsL l, x < nx
 log : LogI w gb its nx
theorem editR_add (line : ByteArray) (W : List (List UInt8)) (its : List It) (l : List Nd) (nx : Int) (gb : Nat) (w : World) (hI : EdIn line its l nx gb w) (hW : wordsB line = ([97, 100, 100] :: W).map mkB) :
  Calls Tryz.prog 41 #[.pointer (some ⟨gb, 0, none⟩), .string line] w (RetEdR gb (editW (wordsB line) l nx) w) := by
 obtain ⟨hl, hR, hS, hw, hnx, hlt, hL⟩ := hI
 have hL2 := hL
 obtain ⟨v0, hb0, hI0⟩ := hL
 have g0 : w.cell? ⟨gb, 0, none⟩ = some v0 := hb0.cell 0
 have g1 : w.cell? ⟨gb, 1, none⟩ = some (.int .i64 nx) := hb0.cell 1
 have hgb := hb0.lt
 obtain ⟨a0, c0, rfl, hlc, hcm, _⟩ := hI0.form
 have HLT := Lib.hid hlt
 have HW := Lib.hid hW
 clear hlt
 go_enter Tryz.func41, Tryz.ntmps41
 go_wp2_with fail
 refine (wordsR_any line w (by omega)).mono ?_
 rintro en w1 ⟨v1, rfl, ho1, hc1⟩
 obtain ⟨ob, off, cap, rfl, hcw⟩ := words_cells HW.out (by have := words_count line; rw [HW.out, List.length_map] at this; omega) ho1
 replace g0 := (hc1.cell (p := ⟨gb, 0, none⟩) hgb nbE).trans g0
 replace g1 := (hc1.cell (p := ⟨gb, 1, none⟩) hgb nbE).trans g1
 have z0 := hcw 0 _ rfl
 rw [Nat.add_zero] at z0
 have Hcw := Lib.hid hcw
 clear hcw ho1 hW
 have hbe : ((mkB [97, 100, 100]).toList == [97, 100, 100]) = true := by rw [Lib.toList_data]; rfl
 have hwc := words_count line
 rw [HW.out, List.length_map] at hwc
 have hlog := addR_any line ([97, 100, 100] :: W) its l nx gb ob off cap w1 HW.out rfl (by omega) (fun x hx => by have := words_small HW.out x hx; omega) hl hR hS hw hnx HLT.out (hL2.keep hc1) Hcw.out
 have hWl : (([97, 100, 100] : List UInt8) :: W).length = W.length + 1 := rfl
 rw [hWl] at hlog ⊢
 have Hlog := Lib.hid hlog
 clear hlog hwc hWl
 go_wp2_with fail
 refine Hlog.out.mono ?_
 rintro en w2 ⟨hc2, h2⟩
 obtain ⟨rr, hrr⟩ : ∃ x, x = editW (wordsB line) l nx := ⟨_, rfl⟩
 rw [← hrr] at h2
 have Hrr := Lib.hid hrr
 clear hrr
 cases rr with
 | bad e =>
  obtain rfl := h2
  go_wp2_with fail
  go_ret
  rw [← Hrr.out]
  exact ⟨(hc1.mono (fun _ _ e => nbE e)).trans hc2 (fun _ e => .inl e), rfl⟩
 | ok l' nx' =>
  obtain ⟨rfl, h3⟩ := h2
  have H3 := Lib.hid h3
  clear h3
  go_wp2_with fail
  go_ret
  rw [← Hrr.out]
  exact ⟨(hc1.mono (fun _ _ e => nbE e)).trans hc2 (fun _ e => .inl e), rfl, H3.out⟩
def verbs : List ByteArray := [bDrop, bRename, bMove, bWiden, bLoosen]
theorem beq_no {a : List UInt8} {c : List UInt8} (h : a ≠ c) : ((mkB a).toList == c) = false := by
 rw [beq_eq_false_iff_ne, Lib.toList_data]
 exact h
theorem editR_no (line : ByteArray) (w0 : List UInt8) (W : List (List UInt8)) (its : List It) (l : List Nd) (nx : Int) (gb : Nat) (w : World) (hI : EdIn line its l nx gb w) (hW : wordsB line = (w0 :: W).map mkB)
  (ha : w0 ≠ [97, 100, 100]) (hr : w0 ≠ [114, 101, 110, 97, 109, 101]) (hm : w0 ≠ [109, 111, 118, 101]) (hx : Lib.idxOfS verbs (mkB w0) = -1) (hed : editW (wordsB line) l nx = .bad (.er .text)) :
  Calls Tryz.prog 41 #[.pointer (some ⟨gb, 0, none⟩), .string line] w (RetEdR gb (editW (wordsB line) l nx) w) := by
 obtain ⟨hl, hR, hS, hw, hnx, hlt, hL⟩ := hI
 have Hed := Lib.hid hed
 have Hx := Lib.hid hx
 have fa := beq_no ha
 have fr := beq_no hr
 have fm := beq_no hm
 clear hed hx ha hr hm
 obtain ⟨v0, hb0, hI0⟩ := hL
 have g0 : w.cell? ⟨gb, 0, none⟩ = some v0 := hb0.cell 0
 have g1 : w.cell? ⟨gb, 1, none⟩ = some (.int .i64 nx) := hb0.cell 1
 have hgb := hb0.lt
 obtain ⟨a0, c0, rfl, hlc, hcm, _⟩ := hI0.form
 have HLT := Lib.hid hlt
 have HW := Lib.hid hW
 clear hlt
 go_enter Tryz.func41, Tryz.ntmps41
 go_wp2_with fail
 refine (wordsR_any line w (by omega)).mono ?_
 rintro en w1 ⟨v1, rfl, ho1, hc1⟩
 obtain ⟨ob, off, cap, rfl, hcw⟩ := words_cells HW.out (by have := words_count line; rw [HW.out, List.length_map] at this; omega) ho1
 replace g0 := (hc1.cell (p := ⟨gb, 0, none⟩) hgb nbE).trans g0
 replace g1 := (hc1.cell (p := ⟨gb, 1, none⟩) hgb nbE).trans g1
 have z0 := hcw 0 _ rfl
 rw [Nat.add_zero] at z0
 have Hcw := Lib.hid hcw
 clear hcw ho1 hW
 have hc2 : Chg NoB w1 (w1.alloc (.cells #[.string ⟨#[100, 114, 111, 112]⟩, .string ⟨#[114, 101, 110, 97, 109, 101]⟩, .string ⟨#[109, 111, 118, 101]⟩, .string ⟨#[119, 105, 100, 101, 110]⟩, .string ⟨#[108, 111, 111, 115, 101, 110]⟩] 9)) := (Chg.refl _ _).alloc _
 have z0' := (hc2.cell (lt_of_at z0) nbE).trans z0
 have hb2 : Blk (w1.alloc (.cells #[.string ⟨#[100, 114, 111, 112]⟩, .string ⟨#[114, 101, 110, 97, 109, 101]⟩, .string ⟨#[109, 111, 118, 101]⟩, .string ⟨#[119, 105, 100, 101, 110]⟩, .string ⟨#[108, 111, 111, 115, 101, 110]⟩] 9)) w1.heap.size (verbs.map Value.string) 9 := Blk.newAt rfl
 go_wp2_with fail
 generalize World.alloc w1 _ = w2 at hc2 z0' hb2 ⊢
 refine (hasIndex_any verbs (mkB w0) w1.heap.size 0 5 w2 (by decide) (fun j z hz => by
  rw [Nat.zero_add, hb2.cell j, List.getElem?_map, hz]
  rfl)).mono ?_
 rintro en w3 ⟨rfl, h0⟩
 obtain rfl := h0.symm
 clear h0
 rw [Hx.out]
 go_wp2_with fail
 go_ret
 rw [Hed.out]
 exact ⟨(hc1.tr hc2).mono (fun _ _ e => nbE e), rfl⟩
theorem numR_or (w1 : List UInt8) : (numF w1 = none ∧ numR w1 = -1) ∨ ∃ v : Int, numF w1 = some v ∧ numR w1 = v ∧ 0 ≤ v := by
 unfold numR
 cases hn : numF w1 with
 | none => exact .inl ⟨rfl, rfl⟩
 | some v => exact .inr ⟨v, rfl, rfl, numF_pos hn⟩
theorem edit_two {v w1 : List UInt8} {l : List Nd} {nx : Int} (ha : mkB v ≠ bAdd) (hm : manyF (mkB v) = some 1) (hv : mkB v ≠ bMove) : editW (([v, w1] : List (List UInt8)).map mkB) l nx = match numF w1 with
  | none => .bad (.er .text)
  | some id => opF (mkB v) ⟨#[]⟩ id 0 l nx := by
 simp only [List.map_cons, List.map_nil, editW]
 rw [if_neg (fun e => ha e.1), hm]
 dsimp only
 rw [if_neg (by simp), mkB_data]
 cases numF w1 with
 | none => rfl
 | some id =>
  dsimp only
  rw [if_neg hv]; rfl
theorem edit_short {v : List UInt8} {W : List (List UInt8)} {l : List Nd} {nx n : Int} (ha : mkB v ≠ bAdd) (hm : manyF (mkB v) = some n) (hW : (W.length : Int) ≠ n) (hn : n ≠ 0) : editW ((v :: W).map mkB) l nx = .bad (.er .text) := by
 match W, hW with
 | [], h => rfl
 | w1 :: rest, h =>
  simp only [List.map_cons, editW]
  rw [if_neg (fun e => ha e.1), hm]
  dsimp only
  rw [if_pos (by simp only [List.length_cons] at h; rw [List.length_map]; omega)]
theorem editR_drop (line : ByteArray) (W : List (List UInt8)) (its : List It) (l : List Nd) (nx : Int) (gb : Nat) (w : World) (hI : EdIn line its l nx gb w) (hW : wordsB line = ([100, 114, 111, 112] :: W).map mkB) :
  Calls Tryz.prog 41 #[.pointer (some ⟨gb, 0, none⟩), .string line] w (RetEdR gb (editW (wordsB line) l nx) w) := by
 obtain ⟨hl, hR, hS, hw, hnx, hlt, hL⟩ := hI
 have hL2 := hL
 have fa := beq_no (show ([100, 114, 111, 112] : List UInt8) ≠ [97, 100, 100] by decide)
 have fr := beq_no (show ([100, 114, 111, 112] : List UInt8) ≠ [114, 101, 110, 97, 109, 101] by decide)
 have fm := beq_no (show ([100, 114, 111, 112] : List UInt8) ≠ [109, 111, 118, 101] by decide)
 have fd : ((mkB [100, 114, 111, 112]).toList == [100, 114, 111, 112]) = true := by rw [Lib.toList_data]; rfl
 obtain ⟨v0, hb0, hI0⟩ := hL
 have g0 : w.cell? ⟨gb, 0, none⟩ = some v0 := hb0.cell 0
 have g1 : w.cell? ⟨gb, 1, none⟩ = some (.int .i64 nx) := hb0.cell 1
 have hgb := hb0.lt
 obtain ⟨a0, c0, rfl, hlc, hcm, _⟩ := hI0.form
 have HLT := Lib.hid hlt
 have HW := Lib.hid hW
 clear hlt
 go_enter Tryz.func41, Tryz.ntmps41
 go_wp2_with fail
 refine (wordsR_any line w (by omega)).mono ?_
 rintro en w1 ⟨v1, rfl, ho1, hc1⟩
 obtain ⟨ob, off, cap, rfl, hcw⟩ := words_cells HW.out (by have := words_count line; rw [HW.out, List.length_map] at this; omega) ho1
 replace g0 := (hc1.cell (p := ⟨gb, 0, none⟩) hgb nbE).trans g0
 replace g1 := (hc1.cell (p := ⟨gb, 1, none⟩) hgb nbE).trans g1
 have z0 := hcw 0 _ rfl
 rw [Nat.add_zero] at z0
 have Hcw := Lib.hid hcw
 clear hcw ho1 hW
 have hWl : (([100, 114, 111, 112] : List UInt8) :: W).length = W.length + 1 := rfl
 rw [hWl]
 clear hWl
 by_cases hlen : W.length = 1
 ·obtain ⟨w1', rfl⟩ : ∃ x, W = [x] := List.length_eq_one_iff.1 hlen
  have z1 := Hcw.out 1 _ rfl
  have hs1 := words_small HW.out w1' (by simp)
  simp only [List.length_cons, List.length_nil] at *
  have hc2 : Chg NoB w1 (w1.alloc (.cells #[.string ⟨#[100, 114, 111, 112]⟩, .string ⟨#[114, 101, 110, 97, 109, 101]⟩, .string ⟨#[109, 111, 118, 101]⟩, .string ⟨#[119, 105, 100, 101, 110]⟩, .string ⟨#[108, 111, 111, 115, 101, 110]⟩] 9)) := (Chg.refl _ _).alloc _
  have z0' := (hc2.cell (lt_of_at z0) nbE).trans z0
  have hb2 : Blk (w1.alloc (.cells #[.string ⟨#[100, 114, 111, 112]⟩, .string ⟨#[114, 101, 110, 97, 109, 101]⟩, .string ⟨#[109, 111, 118, 101]⟩, .string ⟨#[119, 105, 100, 101, 110]⟩, .string ⟨#[108, 111, 111, 115, 101, 110]⟩] 9)) w1.heap.size (verbs.map Value.string) 9 := Blk.newAt rfl
  go_wp2_with fail
  generalize World.alloc w1 _ = w2 at hc2 z0' hb2 ⊢
  refine (hasIndex_any verbs (mkB [100, 114, 111, 112]) w1.heap.size 0 5 w2 (by decide) (fun j z hz => by
   rw [Nat.zero_add, hb2.cell j, List.getElem?_map, hz]
   rfl)).mono ?_
  rintro en w3 ⟨rfl, h0⟩
  obtain rfl := h0.symm
  clear h0
  rw [show Lib.idxOfS verbs (mkB [100, 114, 111, 112]) = 0 from by decide +kernel]
  replace g0 := (hc2.cell (p := ⟨gb, 0, none⟩) (lt_of_at g0) nbE).trans g0
  replace g1 := (hc2.cell (p := ⟨gb, 1, none⟩) (lt_of_at g1) nbE).trans g1
  have hc02 := hc1.tr hc2
  clear z0 hb2
  replace z1 := (hc2.cell (lt_of_at z1) nbE).trans z1
  go_wp2_with fail
  refine (numberOf_gen (mkB w1') w2 (by rw [mkB_sz]; omega)).mono ?_
  rintro en w3 ⟨rfl, h0⟩
  obtain rfl := h0.symm
  clear h0
  rw [mkB_data]
  have htwo := edit_two (v := [100, 114, 111, 112]) (w1 := w1') (l := l) (nx := nx) (by decide) (by decide +kernel) (by decide)
  rw [← HW.out] at htwo
  rcases numR_or w1' with ⟨hn, hr⟩ | ⟨id, hn, hr, hid0⟩
  ·rw [hn] at htwo
   have Hed := Lib.hid htwo
   rw [hr]
   clear htwo hr hn
   go_wp2_with fail
   go_ret
   rw [Hed.out]
   exact ⟨Chg.mono (hc02) (fun _ _ e => nbE e), rfl⟩
  ·rw [hn] at htwo
   rw [hr]
   dsimp only at htwo
   have Htwo := Lib.hid htwo
   clear hr hn htwo
   have hatl := atR_any its id (.slice a0 its.length c0) w2 _ (hI0.keep hc02 (fun _ _ => nbE))
   go_wp2_with fail
   refine hatl.mono ?_
   clear hatl
   rintro en w3 ⟨ra, rfl, hspec, h3⟩
   obtain rfl := h3.symm
   clear h3
   have hcase := at_law hR.rep hR.numb hspec
   clear hspec
   rcases hcase with ⟨hnone, rfl⟩ | ⟨q, jq, x, hfq, rfl, hjx, hxq, hxi, _, _⟩
   ·have hed : editW (wordsB line) l nx = .bad .non := by
     rw [Htwo.out]; unfold opF; rw [hnone]
    have Hed := Lib.hid hed
    clear hed hnone
    go_wp2_with fail
    go_ret
    rw [Hed.out]
    exact ⟨Chg.mono (hc02) (fun _ _ e => nbE e), rfl⟩
   ·have hed : editW (wordsB line) l nx = .ok (keepD id l) nx := by
     rw [Htwo.out]; unfold opF; rw [hfq]
     dsimp only
     rw [if_pos (by decide)]; rfl
    have Hed := Lib.hid hed
    have hid1 : 1 ≤ id := hR.numb.pos id (fndL_iff.2 ⟨q, hfq⟩)
    have hjI : ¬ ((jq : Nat) : Int) < 0 := by omega
    have hilen : its.length ≤ 39 := Nat.le_trans (items_len hR) hw
    have HR := Lib.hid hR
    clear hed hfq hjx hxq hxi hR
    obtain ⟨ao, co, hv, hcs, hnn⟩ := (hI0.keep hc02 (fun _ _ => nbE)).src
    obtain ⟨rfl, -, rfl⟩ := Value.slice.inj hv
    have Hcs := Lib.hid hcs
    have Hnn := Lib.hid hnn
    clear hcs hnn hv
    go_wp2_with (at_builtin; refine stop_here ?_)
    refine Stop.go ?_
    refine wpList_own rfl (.tmp 76) (.tmp 80) 84 rfl w.heap.size 124 Tryz.underlying84 infoItem rfl (by decide) rfl (Own.nil w2 w.heap.size 124 6 (fun _ => False)) rfl (its.map It.dt) _ (by rw [List.length_map]) (it_chunks _ _ _) Hcs.out Hnn.out ?_ ?_ hc02.size ?_
    ·simp [maxLen]; omega
    ·simp; omega
    intro ao2 cp2 wB hoB hcB hatB
    simp only [List.length_nil, Nat.zero_add, List.nil_append] at hoB hcB hatB ⊢
    have hcB0 : Chg NoB w2 wB := hcB.mono (fun _ _ e => by cases e)
    have hcwB := hc02.tr hcB0
    replace g0 := (hcB0.cell (p := ⟨gb, 0, none⟩) (lt_of_at g0) nbE).trans g0
    replace g1 := (hcB0.cell (p := ⟨gb, 1, none⟩) (lt_of_at g1) nbE).trans g1
    replace z0' := (hcB0.cell (lt_of_at z0') nbE).trans z0'
    clear hcB hatB
    have hIB := hoB.its (by omega)
    have hdr := droppedR_any its id _ wB _ hIB
    have Hdr := Lib.hid hdr
    clear hdr
    go_wp2_with fail
    refine Hdr.out.mono ?_
    rintro en w5 ⟨v5, r, G, rfl, hG, hwo, hI5, hc5⟩
    have hcw5 := hcwB.tr hc5
    have hrdy := HR.out.drop hid1 hG hwo
    obtain ⟨a5, c5, rfl, _, _, _⟩ := hI5.form
    replace g1 := (hc5.cell (p := ⟨gb, 1, none⟩) (lt_of_at g1) nbE).trans g1
    have hSX : ∀ b, wB.heap.size ≤ b → b ≠ gb := fun b hb e => by have := hcwB.size; omega
    have Hrdy := Lib.hid hrdy
    clear hrdy hG hwo
    have hwf := editW_facts (line := line) hl ⟨hnx.1, by omega⟩ hS hw Hed.out
    have hok9 : (rootNd (keepD id l)).ok := ⟨⟨by decide, by decide⟩, by decide, ⟨by decide, by decide⟩, ⟨by decide, by decide⟩, by have := weighs_len (keepD id l); have := hwf.2.1; unfold reach; omega, all_ok hwf.1 (by have := hwf.2.1; omega)⟩
    have hbl := becomeR_law Hrdy.out (by omega) (hb0.keep hcw5 nbE) hI5 hSX hok9
    have Hbl := Lib.hid hbl
    clear hwf hok9 hbl
    go_wp2_with fail
    refine Hbl.out.mono ?_
    rintro en w9 ⟨hc9, rfl, h9⟩
    have H9 := Lib.hid h9
    clear h9
    go_wp2_with fail
    go_ret
    rw [Hed.out]
    exact ⟨(hcw5.mono (fun _ _ e => nbE e)).trans hc9 (fun _ e => .inl e), rfl, H9.out⟩
 ·have hne : ((W.length : Int) + 1 != 2) = true := by rw [bne_iff_ne]; omega
  have hed : editW (wordsB line) l nx = .bad (.er .text) := by
   rw [HW.out]
   exact edit_short (n := 1) (by decide) (by decide +kernel) (by omega) (by decide)
  have Hed := Lib.hid hed
  clear hed
  have hc2 : Chg NoB w1 (w1.alloc (.cells #[.string ⟨#[100, 114, 111, 112]⟩, .string ⟨#[114, 101, 110, 97, 109, 101]⟩, .string ⟨#[109, 111, 118, 101]⟩, .string ⟨#[119, 105, 100, 101, 110]⟩, .string ⟨#[108, 111, 111, 115, 101, 110]⟩] 9)) := (Chg.refl _ _).alloc _
  have z0' := (hc2.cell (lt_of_at z0) nbE).trans z0
  have hb2 : Blk (w1.alloc (.cells #[.string ⟨#[100, 114, 111, 112]⟩, .string ⟨#[114, 101, 110, 97, 109, 101]⟩, .string ⟨#[109, 111, 118, 101]⟩, .string ⟨#[119, 105, 100, 101, 110]⟩, .string ⟨#[108, 111, 111, 115, 101, 110]⟩] 9)) w1.heap.size (verbs.map Value.string) 9 := Blk.newAt rfl
  go_wp2_with fail
  generalize World.alloc w1 _ = w2 at hc2 z0' hb2 ⊢
  refine (hasIndex_any verbs (mkB [100, 114, 111, 112]) w1.heap.size 0 5 w2 (by decide) (fun j z hz => by
   rw [Nat.zero_add, hb2.cell j, List.getElem?_map, hz]
   rfl)).mono ?_
  rintro en w3 ⟨rfl, h0⟩
  obtain rfl := h0.symm
  clear h0
  rw [show Lib.idxOfS verbs (mkB [100, 114, 111, 112]) = 0 from by decide +kernel]
  replace g0 := (hc2.cell (p := ⟨gb, 0, none⟩) (lt_of_at g0) nbE).trans g0
  replace g1 := (hc2.cell (p := ⟨gb, 1, none⟩) (lt_of_at g1) nbE).trans g1
  have hc02 := hc1.tr hc2
  clear z0 hb2
  go_wp2_with fail
  go_ret
  rw [Hed.out]
  exact ⟨Chg.mono (hc02) (fun _ _ e => nbE e), rfl⟩
end Go.Proofs.YtgcmfpcgmkkobaaGreatDoor
