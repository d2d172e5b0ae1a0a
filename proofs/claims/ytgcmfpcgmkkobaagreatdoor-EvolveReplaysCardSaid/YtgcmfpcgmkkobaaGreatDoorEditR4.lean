/-
  The document's Edit: move.
-/
import Derived.Test.YtgcmfpcgmkkobaaGreatDoorEditR
import Derived.Test.YtgcmfpcgmkkobaaGreatDoorWordsR
import Derived.Test.YtgcmfpcgmkkobaaGreatDoorRegion
import Derived.Deep.Quiet
import Derived.RegionTactic
import Derived.StillTail
import Derived.Deep.CutBlock
import Derived.Deep.QuietTactic
import Derived.BigQuiet
set_option linter.unusedVariables false
set_option maxHeartbeats 20000000
set_option maxRecDepth 100000
set_option linter.unusedSimpArgs false
namespace Go.Proofs.YtgcmfpcgmkkobaaGreatDoor
open Go.RowKit
theorem edit_mvW {w1 w2 : List UInt8} {l : List Nd} {nx : Int} : editW (([[109, 111, 118, 101], w1, w2] : List (List UInt8)).map mkB) l nx = match numF w1 with
  | none => .bad (.er .text)
  | some id => match numF w2 with
   | none => .bad (.er .text)
   | some p => opF (mkB [109, 111, 118, 101]) (mkB w2) id p l nx := by
 simp only [List.map_cons, List.map_nil, editW]
 rw [if_neg (fun e => absurd e.1 (by decide)), show manyF (mkB [109, 111, 118, 101]) = some 2 from by decide +kernel]
 dsimp only
 rw [if_neg (by simp), mkB_data]
 cases numF w1 with
 | none => rfl
 | some id =>
  dsimp only
  rw [if_pos (by decide), mkB_data]
  cases numF w2 <;> rfl
theorem erase_count {its : List It} {x : It} {j : Nat} (hj : its[j]? = some x) : ((its.eraseIdx j).filter (arB x.ar)).length + 1 = (its.filter (arB x.ar)).length := by
 obtain ⟨l1, l2, e1, e2⟩ := erase_split hj
 rw [e2]
 conv => rhs; rw [e1]
 rw [List.filter_append, List.filter_append, List.filter_cons_of_pos (show arB x.ar x = true from decide_eq_true rfl), List.length_append, List.length_append, List.length_cons]
 omega
theorem Own.nilOr {w : World} {B : Nat} {v : Value} {its : List It} (h : Own w B 124 6 (fun _ => False) v (its.map It.dt)) (hl : its.length ≤ 1000000) :
  (v = .slice none 0 0 ∧ its = []) ∨ ∃ g off cap, v = .slice (some ⟨g, off, none⟩) its.length cap ∧ its.length ≤ cap ∧ cap ≤ maxLen ∧ g < w.heap.size ∧ ∀ j x, its[j]? = some x → ItAt w g (off + j * 6) x := by
 have hI := h.its hl
 obtain ⟨xs, h1, h2⟩ := h
 rcases h1.2 with ⟨hv, h0⟩ | ⟨g, cap, cur, hv, hb, hg, hn, hc, hsz, htk⟩
 ·rw [List.length_map] at h0
  exact .inl ⟨hv, List.eq_nil_of_length_eq_zero h0⟩
 ·rw [List.length_map] at hv hn
  obtain ⟨a, c, hv2, h3, h4, h5⟩ := hI.form
  rw [hv] at hv2
  obtain ⟨rfl, -, rfl⟩ := Value.slice.inj hv2
  have hB : Blk w g cur.toList 124 := by unfold Blk; simpa using hg
  refine .inr ⟨g, 0, cap, hv, h3, h4, hB.lt, fun j x hj => ?_⟩
  have hjl := (List.getElem?_eq_some_iff.1 hj).1
  obtain ⟨b, off, e, _, _, h6⟩ := h5 (by omega)
  have e := Option.some.inj e
  simp only [Addr.mk.injEq] at e
  obtain ⟨rfl, rfl, _⟩ := e
  exact h6 j x hj
def Mv2 (mm : List It) (p r : Int) (w5 : World) (vp vk : Value) (wr : World) : Prop := ∃ i : Nat, i ≤ mm.length ∧ vk = .int .i64 (i : Nat) ∧ vp = .int .i64 (r - (((mm.take i).filter (arB p)).length : Nat)) ∧ (((mm.take i).filter (arB p)).length : Int) ≤ r ∧ Chg NoB w5 wr
def MvRel (its : List It) (p : Int) (wB : World) (vc vi : Value) (wr : World) : Prop := ∃ i : Nat, i ≤ its.length ∧ vi = .int .i64 (i : Nat) ∧ vc = .int .i64 (((its.take i).filter (arB p)).length : Nat) ∧ Chg NoB wB wr
theorem editR_move (line : ByteArray) (W : List (List UInt8)) (its : List It) (l : List Nd) (nx : Int) (gb : Nat) (w : World) (hI : EdIn line its l nx gb w) (hW : wordsB line = ([109, 111, 118, 101] :: W).map mkB) :
  Calls Tryz.prog 41 #[.pointer (some ⟨gb, 0, none⟩), .string line] w (RetEdR gb (editW (wordsB line) l nx) w) := by
 obtain ⟨hl, hR, hS, hw, hnx, hlt, hL⟩ := hI
 have hL2 := hL
 have f0 := beq_no (show ([109, 111, 118, 101] : List UInt8) ≠ [97, 100, 100] by decide)
 have f1 := beq_no (show ([109, 111, 118, 101] : List UInt8) ≠ [100, 114, 111, 112] by decide)
 have f2 := beq_no (show ([109, 111, 118, 101] : List UInt8) ≠ [114, 101, 110, 97, 109, 101] by decide)
 have f3 : ((mkB [109, 111, 118, 101]).toList == [109, 111, 118, 101]) = true := by rw [Lib.toList_data]; rfl
 have f4 := beq_no (show ([109, 111, 118, 101] : List UInt8) ≠ [119, 105, 100, 101, 110] by decide)
 have f5 := beq_no (show ([109, 111, 118, 101] : List UInt8) ≠ [108, 111, 111, 115, 101, 110] by decide)
 obtain ⟨v0, hb0, hI0⟩ := hL
 have g0 : w.cell? ⟨gb, 0, none⟩ = some v0 := hb0.cell 0
 have g1 : w.cell? ⟨gb, 1, none⟩ = some (.int .i64 nx) := hb0.cell 1
 have hgb := hb0.lt
 obtain ⟨a0, c0, rfl, hlc, hcm, _⟩ := hI0.form
 have HLT := Lib.hid hlt
 have HW := Lib.hid hW
 clear hlt
 go_enter Tryz.func41, Tryz.ntmps41
 go_wp2_with fail
 refine (wordsR_any line w (by omega)).mono ?_
 rintro en w1 ⟨v1, rfl, ho1, hc1⟩
 obtain ⟨ob, off, cap, rfl, hcw⟩ := words_cells HW.out (by have := words_count line; rw [HW.out, List.length_map] at this; omega) ho1
 replace g0 := (hc1.cell (p := ⟨gb, 0, none⟩) hgb nbE).trans g0
 replace g1 := (hc1.cell (p := ⟨gb, 1, none⟩) hgb nbE).trans g1
 have z0 := hcw 0 _ rfl
 rw [Nat.add_zero] at z0
 have Hcw := Lib.hid hcw
 clear hcw ho1 hW
 have hWl : (([109, 111, 118, 101] : List UInt8) :: W).length = W.length + 1 := rfl
 rw [hWl]
 clear hWl
 by_cases hlen : W.length = 2
 ·obtain ⟨w1', w2', rfl⟩ : ∃ x y, W = [x, y] := by
   match W, hlen with
   | [x, y], _ => exact ⟨x, y, rfl⟩
  have z1 := Hcw.out 1 _ rfl
  have z2 := Hcw.out 2 _ rfl
  have hs1 := words_small HW.out w1' (by simp)
  have hs2 := words_small HW.out w2' (by simp)
  simp only [List.length_cons, List.length_nil] at *
  have hc2 : Chg NoB w1 (w1.alloc (.cells #[.string ⟨#[100, 114, 111, 112]⟩, .string ⟨#[114, 101, 110, 97, 109, 101]⟩, .string ⟨#[109, 111, 118, 101]⟩, .string ⟨#[119, 105, 100, 101, 110]⟩, .string ⟨#[108, 111, 111, 115, 101, 110]⟩] 9)) := (Chg.refl _ _).alloc _
  have z0' := (hc2.cell (lt_of_at z0) nbE).trans z0
  have hb2 : Blk (w1.alloc (.cells #[.string ⟨#[100, 114, 111, 112]⟩, .string ⟨#[114, 101, 110, 97, 109, 101]⟩, .string ⟨#[109, 111, 118, 101]⟩, .string ⟨#[119, 105, 100, 101, 110]⟩, .string ⟨#[108, 111, 111, 115, 101, 110]⟩] 9)) w1.heap.size (verbs.map Value.string) 9 := Blk.newAt rfl
  go_wp2_with fail
  generalize World.alloc w1 _ = w2 at hc2 z0' hb2 ⊢
  refine (hasIndex_any verbs (mkB [109, 111, 118, 101]) w1.heap.size 0 5 w2 (by decide) (fun j z hz => by
   rw [Nat.zero_add, hb2.cell j, List.getElem?_map, hz]
   rfl)).mono ?_
  rintro en w3 ⟨rfl, h0⟩
  obtain rfl := h0.symm
  clear h0
  rw [show Lib.idxOfS verbs (mkB [109, 111, 118, 101]) = 2 from by decide +kernel]
  replace g0 := (hc2.cell (p := ⟨gb, 0, none⟩) (lt_of_at g0) nbE).trans g0
  replace g1 := (hc2.cell (p := ⟨gb, 1, none⟩) (lt_of_at g1) nbE).trans g1
  have hc02 := hc1.tr hc2
  clear z0 hb2
  replace z1 := (hc2.cell (lt_of_at z1) nbE).trans z1
  replace z2 := (hc2.cell (lt_of_at z2) nbE).trans z2
  go_wp2_with fail
  refine (numberOf_gen (mkB w1') w2 (by rw [mkB_sz]; omega)).mono ?_
  rintro en w3 ⟨rfl, h0⟩
  obtain rfl := h0.symm
  clear h0
  rw [mkB_data]
  have hmv := edit_mvW (w1 := w1') (w2 := w2') (l := l) (nx := nx)
  rw [← HW.out] at hmv
  have hn1 := numR_or w1'
  generalize numR w1' = r1 at hn1 ⊢
  have Hn1 := Lib.hid hn1
  have Hmv := Lib.hid hmv
  have hb1 : -1 ≤ r1 := by rcases hn1 with ⟨_, h⟩ | ⟨_, _, h, h2⟩ <;> omega
  clear hn1 hmv
  go_wp2_with fail
  refine (numberOf_gen (mkB w2') w2 (by rw [mkB_sz]; omega)).mono ?_
  rintro en w3 ⟨rfl, h0⟩
  obtain rfl := h0.symm
  clear h0
  rw [mkB_data]
  have hn2 := numR_or w2'
  generalize numR w2' = r2 at hn2 ⊢
  have Hn2 := Lib.hid hn2
  have hb2' : -1 ≤ r2 := by rcases hn2 with ⟨_, h⟩ | ⟨_, _, h, h2⟩ <;> omega
  clear hn2
  by_cases hneg : r1 < 0
  ·have hed : editW (wordsB line) l nx = .bad (.er .text) := by
    rw [Hmv.out]
    rcases Hn1.out with ⟨h, _⟩ | ⟨v, _, h, h2⟩
    ·rw [h]
    ·omega
   have Hed := Lib.hid hed
   clear hed
   go_wp2_with fail
   go_ret
   rw [Hed.out]
   exact ⟨Chg.mono (hc02) (fun _ _ e => nbE e), rfl⟩
  ·by_cases hneg2 : r2 < 0
   ·have hed : editW (wordsB line) l nx = .bad (.er .text) := by
     rw [Hmv.out]
     rcases Hn2.out with ⟨h, _⟩ | ⟨v, _, h, h2⟩
     ·rw [h]
      cases numF w1' <;> rfl
     ·omega
    have Hed := Lib.hid hed
    clear hed
    go_wp2_with fail
    go_ret
    rw [Hed.out]
    exact ⟨Chg.mono (hc02) (fun _ _ e => nbE e), rfl⟩
   ·have hop : editW (wordsB line) l nx = opF (mkB [109, 111, 118, 101]) (mkB w2') r1 r2 l nx := by
     rw [Hmv.out]
     rcases Hn1.out with ⟨_, h⟩ | ⟨v, h, rfl, h2⟩
     ·omega
     rcases Hn2.out with ⟨_, h9⟩ | ⟨v2, h9, rfl, h92⟩
     ·omega
     rw [h, h9]
    have Hop := Lib.hid hop
    clear hop
    have hatl := atR_any its r1 (.slice a0 its.length c0) w2 _ (hI0.keep hc02 (fun _ _ => nbE))
    go_wp2_with fail
    refine hatl.mono ?_
    clear hatl
    rintro en w3 ⟨ra, rfl, hspec, h3⟩
    obtain rfl := h3.symm
    clear h3
    have hcase := at_law hR.rep hR.numb hspec
    clear hspec
    rcases hcase with ⟨hnone, rfl⟩ | ⟨q, jq, x, hfq, rfl, hjx, hxq, hxi, hqk, hqi⟩
    ·have hed : editW (wordsB line) l nx = .bad .non := by
      rw [Hop.out]; unfold opF; rw [hnone]
     have Hed := Lib.hid hed
     clear hed hnone
     go_wp2_with fail
     go_ret
     rw [Hed.out]
     exact ⟨Chg.mono (hc02) (fun _ _ e => nbE e), rfl⟩
    ·have hop2 : editW (wordsB line) l nx = if (((its.filter (arB x.ar)).length : Nat) : Int) ≤ r2 then .bad (.er .bound) else .ok (grpT r1 (movTo r1 r2.toNat) l) nx := by
      rw [Hop.out]; unfold opF; rw [hfq]
      dsimp only
      rw [if_neg (by decide), if_neg (by decide), if_pos (by decide), fndG_kids hR.numb hqk hqi, hR.rep x.ar, List.length_map]
     have Hop2 := Lib.hid hop2
     clear hop2 hqk hqi
     have hjl : jq < its.length := (List.getElem?_eq_some_iff.1 hjx).1
     have hjI : ¬ ((jq : Nat) : Int) < 0 := by omega
     have hjI2 : ((jq : Nat) : Int) < (its.length : Int) := by omega
     have hilen : its.length ≤ 39 := Nat.le_trans (items_len hR) hw
     have HR := Lib.hid hR
     have Hfq := Lib.hid hfq
     have Hjx := Lib.hid hjx
     have Hxi := Lib.hid hxi
     clear hfq hjx hxq hxi hR
     obtain ⟨ao, co, hv, hcs, hnn⟩ := (hI0.keep hc02 (fun _ _ => nbE)).src
     obtain ⟨rfl, -, rfl⟩ := Value.slice.inj hv
     have Hcs := Lib.hid hcs
     have Hnn := Lib.hid hnn
     clear hcs hnn hv
     go_wp2_with (at_builtin; refine stop_here ?_)
     refine Stop.go ?_
     refine wpList_own rfl (.tmp 76) (.tmp 80) 84 rfl w.heap.size 124 Tryz.underlying84 infoItem rfl (by decide) rfl (Own.nil w2 w.heap.size 124 6 (fun _ => False)) rfl (its.map It.dt) _ (by rw [List.length_map]) (it_chunks _ _ _) Hcs.out Hnn.out ?_ ?_ hc02.size ?_
     ·simp [maxLen]; omega
     ·simp; omega
     intro ao2 cp2 wB hoB hcB hatB
     simp only [List.length_nil, Nat.zero_add, List.nil_append] at hoB hcB hatB ⊢
     have hcB0 : Chg NoB w2 wB := hcB.mono (fun _ _ e => by cases e)
     have hcwB := hc02.tr hcB0
     replace g0 := (hcB0.cell (p := ⟨gb, 0, none⟩) (lt_of_at g0) nbE).trans g0
     replace g1 := (hcB0.cell (p := ⟨gb, 1, none⟩) (lt_of_at g1) nbE).trans g1
     replace z0' := (hcB0.cell (lt_of_at z0') nbE).trans z0'
     clear hcB hatB
     have hIB := hoB.its (by omega)
     obtain ⟨a3, c3, hv3, _, _, hcell3⟩ := hIB.form
     obtain ⟨rfl, -, rfl⟩ := Value.slice.inj hv3
     obtain ⟨b3, off3, rfl, _, hb3l, hE3⟩ := hcell3 (by omega)
     have hxar := (hE3 jq x Hjx.out).ar
     have HE3 := Lib.hid hE3
     clear hv3 hcell3 hE3
     go_wp2_with fail
     go_loopw [13, 14] (fun vc vi wr => MvRel its x.ar wB vc vi wr) (fun _ vi _ => its.length - (intOf vi).toNat)
     case atStart => exact ⟨0, Nat.zero_le _, rfl, rfl, Chg.refl _ _⟩
     case round =>
      obtain ⟨i, hi, rfl, rfl, hcr⟩ := hrel
      by_cases hlt : i < its.length
      ·have hltI : (i : Int) < (its.length : Int) := by omega
       have hgi : its[i]? = some its[i] := List.getElem?_eq_getElem hlt
       have htk : its.take (i + 1) = its.take i ++ [its[i]] := List.take_succ_eq_append_getElem hlt
       have hyr := ((HE3.out i _ hgi).keep hcr nbE).ar
       have hxr := (hcr.cell (lt_of_at hxar) nbE).trans hxar
       generalize its[i] = y at hgi htk hyr
       have Htk := Lib.hid htk
       clear hgi htk
       go_wp2_with fail
       refine wp_region_n (fun w' => w'.cell? ⟨b3, off3 + i * 6 + 5, none⟩ = some (.int .i64 y.ar) ∧ w'.cell? ⟨b3, off3 + jq * 6 + 5, none⟩ = some (.int .i64 x.ar)) [] (by kernel_rfl) ?_ (fun hSh => ?_)
       ·exact ⟨hyr, hxr⟩
       refine n_from 0 ?_
       intro htk
       iterate 11
        refine n_tB (v := ?_) htk rfl (Or.inl ⟨by rfl, ?_⟩) ?_
        rotate_left 1
        ·(intro w' hSw; (try dsimp only at hSw); go_simp; try with_reducible rfl)
        clear htk
        intro htk
        simp only [Nat.reduceAdd] at htk
        simp only [Act.put, qA, qB, qC, qD, qE, qF]
       clear htk
       refine n_done (by kernel_rfl) ?_
       have hcd : Chg NoB wB wr.drew := hcr.drew
       clear hSh hyr hxr
       have hi40 : ((its.take i).filter (arB x.ar)).length ≤ 39 := by
        have h1 := List.length_filter_le (arB x.ar) (its.take i)
        rw [List.length_take] at h1
        omega
       by_cases he : y.ar = x.ar
       ·have heb : (y.ar == x.ar) = true := by rw [beq_iff_eq]; exact he
        have hn : ((its.take (i + 1)).filter (arB x.ar)).length = ((its.take i).filter (arB x.ar)).length + 1 := by
         rw [Htk.out, List.filter_append, List.length_append, List.filter_cons_of_pos (show arB x.ar y = true from decide_eq_true he)]; rfl
        have Hn := Lib.hid hn
        clear hn he
        generalize ((its.take i).filter (arB x.ar)).length = cn at hi40 Hn ⊢
        go_wp2_with fail
        go_roundw
        case rel => exact ⟨i + 1, hlt, by go_num, by rw [Hn.out]; go_num, hcd⟩
        case measure => simp [intOf]; omega
       ·have heb : (y.ar == x.ar) = false := by rw [beq_eq_false_iff_ne]; exact he
        have hn : ((its.take (i + 1)).filter (arB x.ar)).length = ((its.take i).filter (arB x.ar)).length := by
         rw [Htk.out, List.filter_append, List.length_append, List.filter_cons_of_neg (by simp [arB, he])]; rfl
        have Hn := Lib.hid hn
        clear hn he
        generalize ((its.take i).filter (arB x.ar)).length = cn at hi40 Hn ⊢
        go_wp2_with fail
        go_roundw
        case rel => exact ⟨i + 1, hlt, by go_num, by rw [Hn.out], hcd⟩
        case measure => simp [intOf]; omega
      ·have hltI : ¬ (i : Int) < (its.length : Int) := by omega
       have hti : its.take i = its := List.take_of_length_le (by omega)
       rw [hti]
       have hcl : (its.filter (arB x.ar)).length ≤ its.length := List.length_filter_le ..
       have hers := erase_count Hjx.out
       have hlen5 : (its.eraseIdx jq).length + 1 = its.length := by rw [List.length_eraseIdx_of_lt hjl]; omega
       generalize (its.filter (arB x.ar)).length = cn at Hop2 hcl hers ⊢
       have Hers := Lib.hid hers
       clear hti hers
       by_cases hbd : (cn : Int) ≤ r2
       ·have hed : editW (wordsB line) l nx = .bad (.er .bound) := by rw [Hop2.out, if_pos hbd]
        have Hed := Lib.hid hed
        clear hed
        go_wp2_with fail
        go_ret
        rw [Hed.out]
        exact ⟨Chg.mono (hcwB.tr hcr) (fun _ _ e => nbE e), rfl⟩
       ·have hAx := (HE3.out jq x Hjx.out).keep hcr nbE
        have y0 := hAx.id
        have y1 := hAx.name
        have y2 := hAx.rep
        have y3 := hAx.kind
        have y4 := hAx.sub
        have y5 := hAx.ar
        have hIr := hIB.keep hcr (fun _ _ => nbE)
        clear hAx
        go_wp2_with fail
        generalize hw4 : World.alloc wr _ = w4
        have hc4 : Chg NoB wr w4 := by
         rw [← hw4]
         repeat (first | exact Chg.refl _ _ | apply Chg.alloc | apply Chg.drew)
        have hb4 : Blk w4 (wr.heap.size) ([.int .i64 x.n.id, .string x.n.name, .int .i64 x.n.rep, .int .i64 x.n.kind, .slice none 0 0, .int .i64 x.ar]) 124 := by
         rw [← hw4]
         repeat (first | exact Blk.newAt (by first | rfl | (simp; done) | (simp; omega)) | apply Blk.alloc | apply Blk.drew)
        clear hw4 y0 y1 y2 y3 y4 y5
        refine (withoutR_any its jq _ w4 _ (hIr.keep hc4 (fun _ _ => nbE)) hjl).mono ?_
        rintro en w5 ⟨v5, rfl, ho5, hc5⟩
        have hrdy : ∀ n : Nat, (((its.eraseIdx jq).take n).filter (arB x.ar)).length = r2.toNat → Rdy ((its.eraseIdx jq).take n ++ x :: (its.eraseIdx jq).drop n) (grpT r1 (movTo r1 r2.toNat) l) nx := fun n hk => HR.out.move Hjx.out Hxi.out Hfq.out hk
        have Hrdy := Lib.hid hrdy
        have hed : editW (wordsB line) l nx = .ok (grpT r1 (movTo r1 r2.toNat) l) nx := by rw [Hop2.out, if_neg (by omega)]
        have Hed := Lib.hid hed
        have hcw5 := ((hcwB.tr hcr).tr hc4).tr hc5
        have hb5 := hb4.keep hc5 nbE
        have xa5 : w5.cell? ⟨wr.heap.size, 5, none⟩ = some (.int .i64 x.ar) := hb5.cell 5
        have hx5 := hb5.lt
        clear hrdy hed
        generalize its.eraseIdx jq = mm at ho5 hlen5 Hers Hrdy
        generalize wr.heap.size = xb at hb5 xa5 hx5 ⊢
        have Hb5 := Lib.hid hb5
        have hmb : mm.length ≤ 1000000 := by omega
        clear hb4 hb5 hIr hIB hc4 hc5
        rcases ho5.nilOr hmb with ⟨rfl, hnil⟩ | ⟨g5, off5, c5, rfl, hlc5, hcm5, hg5, hE5⟩
        ·subst hnil
         have hr0 : r2 = 0 := by have := Hers.out; simp only [List.length_nil, List.filter_nil] at this hlen5; omega
         subst hr0
         go_wp2_with fail
         go_loopw [9, 16] (fun vp vk wr => vp = .int .i64 0 ∧ vk = .int .i64 0 ∧ Chg NoB w5 wr) (fun _ _ _ => 0)
         case atStart => exact ⟨rfl, rfl, Chg.refl _ _⟩
         case round =>
          obtain ⟨rfl, rfl, hcr6⟩ := hrel
          go_wp2_with fail
          go_quiet (fail)
          have hc6 := hcr6.drewN nq
          generalize World.drewN wr nq = w6 at hc6 ⊢
          have hbx := (Hb5.out).keep hc6 nbE
          go_wp2_with (at_builtin; refine stop_here ?_)
          refine Stop.go ?_
          refine wpList_own rfl (.tmp 167) (.tmp 170) 84 rfl w5.heap.size 124 Tryz.underlying84 infoItem rfl (by decide) rfl (Own.nil w6 w5.heap.size 124 6 (fun _ => False)) rfl (([] : List It).map It.dt) _ rfl (it_chunks _ _ []) (fun ad had => by cases had) (fun _ => ⟨rfl, rfl⟩) ?_ ?_ hc6.size ?_
          ·simp [maxLen]
          ·simp
          intro ao2 cp2 wC hoC hcC hatC
          simp only [List.length_nil, Nat.zero_add, List.nil_append, List.map_nil] at hoC hcC hatC ⊢
          have hcC0 : Chg NoB w6 wC := hcC.mono (fun _ _ e => by cases e)
          clear hcC hatC
          have hbC := hbx.keep hcC0 nbE
          have q0 : wC.cell? ⟨xb, 0, none⟩ = some (.int .i64 x.n.id) := hbC.cell 0
          have q1 : wC.cell? ⟨xb, 1, none⟩ = some (.string x.n.name) := hbC.cell 1
          have q2 : wC.cell? ⟨xb, 2, none⟩ = some (.int .i64 x.n.rep) := hbC.cell 2
          have q3 : wC.cell? ⟨xb, 3, none⟩ = some (.int .i64 x.n.kind) := hbC.cell 3
          have q4 : wC.cell? ⟨xb, 4, none⟩ = some (.slice none 0 0) := hbC.cell 4
          have q5 : wC.cell? ⟨xb, 5, none⟩ = some (.int .i64 x.ar) := hbC.cell 5
          have hlC := hbC.lt
          go_wp2_with (at_builtin; refine stop_here ?_)
          refine Stop.go ?_
          clear q0 q1 q2 q3 q4 q5
          generalize hw7 : World.alloc _ _ = w7
          have hc7 : Chg NoB wC w7 := by
           rw [← hw7]
           repeat (first | exact Chg.refl _ _ | apply Chg.alloc | apply Chg.drew)
          have hb7 : Blk w7 (wC.heap.size) (itCells x) 124 := by
           rw [← hw7]
           repeat (first | exact Blk.newAt (by first | rfl | (simp; done) | (simp; omega)) | apply Blk.alloc | apply Blk.drew)
          clear hw7
          have hoC7 := hoC.keep hc7 (fun _ e => e.elim) (fun _ _ => nbE)
          have hc57 := (hc6.tr hcC0).tr hc7
          refine wpList_own rfl (.tmp 172) (.tmp 174) 84 rfl w5.heap.size 124 Tryz.underlying84 infoItem rfl (by decide) rfl hoC7 rfl [It.dt x] (itCells x) rfl (ReadsC.single rfl (reads_it.2 rfl)) hb7.news (fun e => by cases e) ?_ ?_ hc57.size ?_
          ·simp [maxLen]
          ·simp
          intro ao8 cp8 w8 ho8 hc8 hat8
          simp only [List.length_nil, Nat.zero_add, List.nil_append] at ho8 hc8 hat8 ⊢
          have hc58 : Chg NoB w5 w8 := hc57.trans hc8 (fun y e => .inr (hoC7.block y e).1)
          have hcw8 := hcw5.tr hc58
          clear hc8 hat8 hoC7 hoC hb7 hbC hlC
          have hrdyK := Hrdy.out 0 rfl
          have HrdyK := Lib.hid hrdyK
          clear hrdyK
          go_wp2_with (at_builtin; refine stop_here ?_)
          refine Stop.go ?_
          refine wpList_own rfl (.tmp 176) (.tmp 179) 84 rfl w5.heap.size 124 Tryz.underlying84 infoItem rfl (by decide) rfl ho8 rfl (([] : List It).map It.dt) _ rfl (it_chunks _ _ []) (fun ad had => by cases had) (fun _ => ⟨rfl, rfl⟩) ?_ ?_ hc58.size ?_
          ·simp [maxLen]
          ·simp
          intro ao9 cp9 wD hoD hcD hatD
          simp only [List.length_singleton, List.length_cons, List.length_nil, Nat.zero_add, List.map_nil, List.append_nil, Nat.add_zero] at hoD ⊢
          have hcwD : Chg NoB w wD := hcw8.trans hcD (fun y e => .inr (Nat.le_trans hcw5.size (ho8.block y e).1))
          have hID : Its wD (fun b => w5.heap.size ≤ b ∧ b < wD.heap.size) (.slice ao9 1 cp9) ([] ++ x :: []) := Own.its (l := [x]) hoD (by simp)
          have g1D : wD.cell? ⟨gb, 1, none⟩ = some (.int .i64 nx) := (hcwD.cell (p := ⟨gb, 1, none⟩) hgb nbE).trans (hb0.cell 1)
          have hgD : gb < wD.heap.size := lt_of_cell g1D
          have hSX : ∀ b, (w5.heap.size ≤ b ∧ b < wD.heap.size) → b ≠ gb := fun b hb e => by have h1 := hb.1; have h2 := hcw5.size; omega
          have HhID := Lib.hid hID
          have HhSX := Lib.hid hSX
          clear hID hSX hoD hcD hatD
          have hwf := editW_facts (line := line) hl ⟨hnx.1, by omega⟩ hS hw Hed.out
          have hok9 : (rootNd (grpT r1 (movTo r1 (0 : Int).toNat) l)).ok := ⟨⟨by decide, by decide⟩, by decide, ⟨by decide, by decide⟩, ⟨by decide, by decide⟩, by have := weighs_len (grpT r1 (movTo r1 (0 : Int).toNat) l); have := hwf.2.1; unfold reach; omega, all_ok hwf.1 (by have := hwf.2.1; omega)⟩
          have hbl := becomeR_law HrdyK.out (by omega) (hb0.keep hcwD nbE) HhID.out HhSX.out hok9
          have Hbl := Lib.hid hbl
          clear hwf hok9 hbl
          go_wp2_with fail
          refine Hbl.out.mono ?_
          rintro en w9 ⟨hc9, rfl, h9⟩
          have H9 := Lib.hid h9
          clear h9
          go_wp2_with fail
          go_ret
          rw [Hed.out]
          exact ⟨(hcwD.mono (fun _ _ e => nbE e)).trans hc9 (fun _ e => .inl e), rfl, H9.out⟩
        ·have HE5 := Lib.hid hE5
         clear hE5 ho5
         go_upto_block 3 with fail
         go_cut [9, 16] (fun vp vk wx => ∃ k : Nat, k ≤ mm.length ∧ vk = .int .i64 (k : Nat) ∧ (∃ z : Int, vp = .int .i64 z) ∧ ((mm.take k).filter (arB x.ar)).length = r2.toNat ∧ Chg NoB w5 wx)
         case first =>
          go_wp2_with fail
          go_loopw [9, 16] (fun vp vk wr => Mv2 mm x.ar r2 w5 vp vk wr) (fun _ vk _ => mm.length - (intOf vk).toNat)
          case atStart => exact ⟨0, Nat.zero_le _, rfl, by simp, by simp; omega, Chg.refl _ _⟩
          case round =>
           obtain ⟨i, hi, rfl, rfl, hle, hcr6⟩ := hrel
           by_cases hlt : i < mm.length
           ·have hltI : (i : Int) < (mm.length : Int) := by omega
            have hgi : mm[i]? = some mm[i] := List.getElem?_eq_getElem hlt
            have htk : mm.take (i + 1) = mm.take i ++ [mm[i]] := List.take_succ_eq_append_getElem hlt
            have hyr := ((HE5.out i _ hgi).keep hcr6 nbE).ar
            have hxr := (hcr6.cell (lt_of_at xa5) nbE).trans xa5
            generalize mm[i] = y at hgi htk hyr
            have Htk := Lib.hid htk
            clear hgi htk
            have hd4 : decide ((i : Int) < (mm.length : Int)) = true := decide_eq_true hltI
            by_cases he : y.ar = x.ar
            ·have heb : (y.ar == x.ar) = true := by rw [beq_iff_eq]; exact he
             have hen : (y.ar != x.ar) = false := by rw [bne_eq_false_iff_eq]; exact he
             have hn : ((mm.take (i + 1)).filter (arB x.ar)).length = ((mm.take i).filter (arB x.ar)).length + 1 := by
              rw [Htk.out, List.filter_append, List.length_append, List.filter_cons_of_pos (show arB x.ar y = true from decide_eq_true he)]; rfl
             have Hn := Lib.hid hn
             clear hn he
             generalize hcnt : ((mm.take i).filter (arB x.ar)).length = c2 at hle Hn ⊢
             have Hcnt := Lib.hid hcnt
             clear hcnt
             by_cases hp : (0 : Int) < r2 - (c2 : Nat)
             ·have hd15 : decide ((0 : Int) < r2 - (c2 : Nat)) = true := decide_eq_true hp
              go_wp2_with fail
              go_quiet (fail)
              have hc6 := hcr6.drewN nq
              have hy6 := ((Chg.refl NoB wr).drewN nq).cell (lt_of_at hyr) nbE |>.trans hyr
              have hx6 := ((Chg.refl NoB wr).drewN nq).cell (lt_of_at hxr) nbE |>.trans hxr
              generalize World.drewN wr nq = w6 at hc6 hy6 hx6 ⊢
              clear hyr hxr
              go_wp2_with fail
              go_quiet (fail)
              have hc7 := hc6.drewN nq
              have hy7 := ((Chg.refl NoB w6).drewN nq).cell (lt_of_at hy6) nbE |>.trans hy6
              have hx7 := ((Chg.refl NoB w6).drewN nq).cell (lt_of_at hx6) nbE |>.trans hx6
              generalize World.drewN w6 nq = w7 at hc7 hy7 hx7 ⊢
              clear hy6 hx6 hc6 hy7 hx7 hcr6
              go_wp2_with fail
              go_roundw
              case rel => exact ⟨i + 1, hlt, by go_num, by rw [Hn.out]; go_num, by rw [Hn.out]; omega, hc7⟩
              case measure => simp [intOf]; omega
             ·have hd15 : decide ((0 : Int) < r2 - (c2 : Nat)) = false := decide_eq_false hp
              go_wp2_with fail
              go_quiet (fail)
              have hc6 := hcr6.drewN nq
              have hy6 := ((Chg.refl NoB wr).drewN nq).cell (lt_of_at hyr) nbE |>.trans hyr
              have hx6 := ((Chg.refl NoB wr).drewN nq).cell (lt_of_at hxr) nbE |>.trans hxr
              generalize World.drewN wr nq = w6 at hc6 hy6 hx6 ⊢
              clear hyr hxr hy6 hx6 hcr6 heb hen hd4 hd15
              have hkR : ((mm.take i).filter (arB x.ar)).length = r2.toNat := by rw [Hcnt.out]; omega
              go_wp2_with fail
              go_meet
              exact ⟨i, by omega, rfl, ⟨_, rfl⟩, hkR, hc6⟩
            ·have hen : (y.ar != x.ar) = true := by rw [bne_iff_ne]; exact he
             have heb : (y.ar == x.ar) = false := by rw [beq_eq_false_iff_ne]; exact he
             have hn : ((mm.take (i + 1)).filter (arB x.ar)).length = ((mm.take i).filter (arB x.ar)).length := by
              rw [Htk.out, List.filter_append, List.length_append, List.filter_cons_of_neg (by simp [arB, he])]; rfl
             have Hn := Lib.hid hn
             clear hn he
             generalize ((mm.take i).filter (arB x.ar)).length = c2 at hle Hn ⊢
             go_wp2_with fail
             go_quiet (fail)
             have hc6 := hcr6.drewN nq
             have hy6 := ((Chg.refl NoB wr).drewN nq).cell (lt_of_at hyr) nbE |>.trans hyr
             have hx6 := ((Chg.refl NoB wr).drewN nq).cell (lt_of_at hxr) nbE |>.trans hxr
             generalize World.drewN wr nq = w6 at hc6 hy6 hx6 ⊢
             clear hyr hxr
             go_wp2_with fail
             go_quiet (fail)
             have hc7 := hc6.drewN nq
             have hy7 := ((Chg.refl NoB w6).drewN nq).cell (lt_of_at hy6) nbE |>.trans hy6
             have hx7 := ((Chg.refl NoB w6).drewN nq).cell (lt_of_at hx6) nbE |>.trans hx6
             generalize World.drewN w6 nq = w7 at hc7 hy7 hx7 ⊢
             clear hy6 hx6 hc6 hy7 hx7 hcr6
             go_wp2_with fail
             go_roundw
             case rel => exact ⟨i + 1, hlt, by go_num, by rw [Hn.out], by rw [Hn.out]; omega, hc7⟩
             case measure => simp [intOf]; omega
           ·have hd4 : decide ((i : Int) < (mm.length : Int)) = false := decide_eq_false (by omega)
            obtain rfl : i = mm.length := by omega
            have hkR : ((mm.take mm.length).filter (arB x.ar)).length = r2.toNat := by
             rw [List.take_length] at hle ⊢
             have := Hers.out
             omega
            go_wp2_with fail
            go_quiet (fail)
            have hc6 := hcr6.drewN nq
            generalize World.drewN wr nq = w6 at hc6  ⊢
            clear hd4 hcr6
            go_wp2_with fail
            go_meet
            exact ⟨mm.length, Nat.le_refl _, rfl, ⟨_, rfl⟩, hkR, hc6⟩
         case rest =>
          obtain ⟨k, hk, rfl, ⟨z9, rfl⟩, hkR, hc6⟩ := hcut
          have hEN : ∀ j x', mm[j]? = some x' → ItAt wc g5 (off5 + j * 6) x' := fun j x' hj => (HE5.out j x' hj).keep hc6 nbE
          have hp1 := Its.part (S := fun _ => False) (n := 0) (c := 0) hEN 0 (k) (by omega)
          rw [List.drop_zero, Nat.zero_mul, Nat.add_zero] at hp1
          have Hp1 := Lib.hid hp1
          clear hp1 hEN
          have hbx := (Hb5.out).keep hc6 nbE
          have hkL : ((k : Nat) : Int) ≤ (mm.length : Int) := by omega
          go_wp2_with (at_builtin; refine stop_here ?_)
          refine Stop.go ?_
          refine wpList_own rfl (.tmp 167) (.tmp 170) 84 rfl w5.heap.size 124 Tryz.underlying84 infoItem rfl (by decide) rfl (Own.nil wc w5.heap.size 124 6 (fun _ => False)) rfl ((mm.take (k)).map It.dt) _ (by rw [List.length_map, List.length_take]; omega) (it_chunks _ _ _) Hp1.out (fun e => by cases e) ?_ ?_ (hc6).size ?_
          ·simp [maxLen]; omega
          ·simp; omega
          intro ao2 cp2 wC hoC hcC hatC
          simp only [List.length_nil, Nat.zero_add, List.nil_append] at hoC hcC hatC ⊢
          have hcC0 : Chg NoB wc wC := hcC.mono (fun _ _ e => by cases e)
          clear hcC hatC Hp1
          have hlk : (mm.take (k)).length = k := by rw [List.length_take]; omega
          have hbC := hbx.keep hcC0 nbE
          have q0 : wC.cell? ⟨xb, 0, none⟩ = some (.int .i64 x.n.id) := hbC.cell 0
          have q1 : wC.cell? ⟨xb, 1, none⟩ = some (.string x.n.name) := hbC.cell 1
          have q2 : wC.cell? ⟨xb, 2, none⟩ = some (.int .i64 x.n.rep) := hbC.cell 2
          have q3 : wC.cell? ⟨xb, 3, none⟩ = some (.int .i64 x.n.kind) := hbC.cell 3
          have q4 : wC.cell? ⟨xb, 4, none⟩ = some (.slice none 0 0) := hbC.cell 4
          have q5 : wC.cell? ⟨xb, 5, none⟩ = some (.int .i64 x.ar) := hbC.cell 5
          have hlC := hbC.lt
          go_wp2_with (at_builtin; refine stop_here ?_)
          refine Stop.go ?_
          clear q0 q1 q2 q3 q4 q5
          generalize hw7 : World.alloc _ _ = w7
          have hc7 : Chg NoB wC w7 := by
           rw [← hw7]
           repeat (first | exact Chg.refl _ _ | apply Chg.alloc | apply Chg.drew)
          have hb7 : Blk w7 (wC.heap.size) (itCells x) 124 := by
           rw [← hw7]
           repeat (first | exact Blk.newAt (by first | rfl | (simp; done) | (simp; omega)) | apply Blk.alloc | apply Blk.drew)
          clear hw7
          have hoC7 := hoC.keep hc7 (fun _ e => e.elim) (fun _ _ => nbE)
          have hc57 := ((hc6).tr hcC0).tr hc7
          refine wpList_own rfl (.tmp 172) (.tmp 174) 84 rfl w5.heap.size 124 Tryz.underlying84 infoItem rfl (by decide) rfl hoC7 rfl [It.dt x] (itCells x) rfl (ReadsC.single rfl (reads_it.2 rfl)) hb7.news (fun e => by cases e) ?_ ?_ hc57.size ?_
          ·rw [List.length_map, hlk]; simp [maxLen]; omega
          ·rw [List.length_map, hlk]; omega
          intro ao8 cp8 w8 ho8 hc8 hat8
          rw [List.length_map, hlk] at ho8 ⊢
          have hc58 : Chg NoB w5 w8 := (((hc6).tr hcC0).tr hc7).trans hc8 (fun y e => .inr (hoC7.block y e).1)
          have hcw8 := hcw5.tr hc58
          clear hc8 hat8 hoC7 hoC hb7 hbC hlC
          have hE8 : ∀ j x', mm[j]? = some x' → ItAt w8 g5 (off5 + j * 6) x' := fun j x' hj => (HE5.out j x' hj).keep hc58 nbE
          have hp2 := Its.part (S := fun _ => False) (n := 0) (c := 0) hE8 (k) (mm.length - k) (by omega)
          rw [List.take_of_length_le (by rw [List.length_drop]; omega)] at hp2
          have Hp2 := Lib.hid hp2
          have hld : (mm.drop (k)).length = mm.length - k := List.length_drop ..
          clear hp2 hE8
          have hrdyK := Hrdy.out (k) hkR
          have hmx : mm.take (k) ++ x :: mm.drop (k) = (mm.take (k) ++ [x]) ++ mm.drop (k) := by simp
          have fin : ∀ (ao9 : Option Addr) (cp9 : Nat) (wD : World), Own wD w5.heap.size 124 6 (fun _ => False) (.slice ao9 (k + 1 + (mm.length - k)) cp9) ((mm.take (k)).map It.dt ++ [It.dt x] ++ (mm.drop (k)).map It.dt) → Chg NoB w wD → Its wD (fun b => w5.heap.size ≤ b ∧ b < wD.heap.size) (.slice ao9 (k + 1 + (mm.length - k)) cp9) (mm.take (k) ++ x :: mm.drop (k)) := fun ao9 cp9 wD hD hcD => by
           refine Own.its (l := mm.take (k) ++ x :: mm.drop (k)) ?_ (by rw [hmx, List.length_append, List.length_append, hlk, hld]; simp; omega)
           rw [hmx, List.map_append, List.map_append]
           exact hD
          have Fin := Lib.hid fin
          have HrdyK := Lib.hid hrdyK
          clear fin hrdyK hmx
          by_cases hce : c5 = k
          ·have hd0 : mm.drop (k) = [] := List.drop_eq_nil_of_le (by omega)
           go_wp2_with (at_builtin; refine stop_here ?_)
           refine Stop.go ?_
           refine wpList_own rfl (.tmp 176) (.tmp 179) 84 rfl w5.heap.size 124 Tryz.underlying84 infoItem rfl (by decide) rfl ho8 rfl ((mm.drop (k)).map It.dt) _ (by rw [List.length_map, hld]) (it_chunks _ _ _) (fun ad had j u hu => by rw [hd0] at hu; simp at hu) (fun e => by cases e) ?_ ?_ hc58.size ?_
           ·rw [List.length_append, List.length_map, hlk]; simp [maxLen]; omega
           ·rw [List.length_append, List.length_map, hlk]; simp; omega
           intro ao9 cp9 wD hoD hcD hatD
           rw [List.length_append, List.length_map, hlk, List.length_singleton] at hoD ⊢
           have hcwD : Chg NoB w wD := hcw8.trans hcD (fun y e => .inr (Nat.le_trans hcw5.size (ho8.block y e).1))
           have hID := Fin.out ao9 cp9 wD (by first | exact hoD | (rw [show mm.length - k = 0 from by omega] at hoD ⊢; exact hoD)) hcwD
           have g1D : wD.cell? ⟨gb, 1, none⟩ = some (.int .i64 nx) := (hcwD.cell (p := ⟨gb, 1, none⟩) hgb nbE).trans (hb0.cell 1)
           have hgD : gb < wD.heap.size := lt_of_cell g1D
           have hSX : ∀ b, (w5.heap.size ≤ b ∧ b < wD.heap.size) → b ≠ gb := fun b hb e => by have h1 := hb.1; have h2 := hcw5.size; omega
           have HhID := Lib.hid hID
           have HhSX := Lib.hid hSX
           clear hID hSX hoD hcD hatD
           have hwf := editW_facts (line := line) hl ⟨hnx.1, by omega⟩ hS hw Hed.out
           have hok9 : (rootNd (grpT r1 (movTo r1 r2.toNat) l)).ok := ⟨⟨by decide, by decide⟩, by decide, ⟨by decide, by decide⟩, ⟨by decide, by decide⟩, by have := weighs_len (grpT r1 (movTo r1 r2.toNat) l); have := hwf.2.1; unfold reach; omega, all_ok hwf.1 (by have := hwf.2.1; omega)⟩
           have hbl := becomeR_law HrdyK.out (by omega) (hb0.keep hcwD nbE) HhID.out HhSX.out hok9
           have Hbl := Lib.hid hbl
           clear hwf hok9 hbl
           go_wp2_with fail
           refine Hbl.out.mono ?_
           rintro en w9 ⟨hc9, rfl, h9⟩
           have H9 := Lib.hid h9
           clear h9
           go_wp2_with fail
           go_ret
           rw [Hed.out]
           exact ⟨(hcwD.mono (fun _ _ e => nbE e)).trans hc9 (fun _ e => .inl e), rfl, H9.out⟩
          ·go_wp2_with (at_builtin; refine stop_here ?_)
           refine Stop.go ?_
           refine wpList_own rfl (.tmp 176) (.tmp 179) 84 rfl w5.heap.size 124 Tryz.underlying84 infoItem rfl (by decide) rfl ho8 rfl ((mm.drop (k)).map It.dt) _ (by rw [List.length_map, hld]) (it_chunks _ _ _) Hp2.out (fun e => by cases e) ?_ ?_ hc58.size ?_
           ·rw [List.length_append, List.length_map, hlk]; simp [maxLen]; omega
           ·rw [List.length_append, List.length_map, hlk]; simp; omega
           intro ao9 cp9 wD hoD hcD hatD
           rw [List.length_append, List.length_map, hlk, List.length_singleton] at hoD ⊢
           have hcwD : Chg NoB w wD := hcw8.trans hcD (fun y e => .inr (Nat.le_trans hcw5.size (ho8.block y e).1))
           have hID := Fin.out ao9 cp9 wD (by first | exact hoD | (rw [show mm.length - k = 0 from by omega] at hoD ⊢; exact hoD)) hcwD
           have g1D : wD.cell? ⟨gb, 1, none⟩ = some (.int .i64 nx) := (hcwD.cell (p := ⟨gb, 1, none⟩) hgb nbE).trans (hb0.cell 1)
           have hgD : gb < wD.heap.size := lt_of_cell g1D
           have hSX : ∀ b, (w5.heap.size ≤ b ∧ b < wD.heap.size) → b ≠ gb := fun b hb e => by have h1 := hb.1; have h2 := hcw5.size; omega
           have HhID := Lib.hid hID
           have HhSX := Lib.hid hSX
           clear hID hSX hoD hcD hatD
           have hwf := editW_facts (line := line) hl ⟨hnx.1, by omega⟩ hS hw Hed.out
           have hok9 : (rootNd (grpT r1 (movTo r1 r2.toNat) l)).ok := ⟨⟨by decide, by decide⟩, by decide, ⟨by decide, by decide⟩, ⟨by decide, by decide⟩, by have := weighs_len (grpT r1 (movTo r1 r2.toNat) l); have := hwf.2.1; unfold reach; omega, all_ok hwf.1 (by have := hwf.2.1; omega)⟩
           have hbl := becomeR_law HrdyK.out (by omega) (hb0.keep hcwD nbE) HhID.out HhSX.out hok9
           have Hbl := Lib.hid hbl
           clear hwf hok9 hbl
           go_wp2_with fail
           refine Hbl.out.mono ?_
           rintro en w9 ⟨hc9, rfl, h9⟩
           have H9 := Lib.hid h9
           clear h9
           go_wp2_with fail
           go_ret
           rw [Hed.out]
           exact ⟨(hcwD.mono (fun _ _ e => nbE e)).trans hc9 (fun _ e => .inl e), rfl, H9.out⟩
 ·have hne : ((W.length : Int) + 1 != 3) = true := by rw [bne_iff_ne]; omega
  have hed : editW (wordsB line) l nx = .bad (.er .text) := by
   rw [HW.out]
   exact edit_short (n := 2) (by decide) (by decide +kernel) (by omega) (by decide)
  have Hed := Lib.hid hed
  clear hed
  have hc2 : Chg NoB w1 (w1.alloc (.cells #[.string ⟨#[100, 114, 111, 112]⟩, .string ⟨#[114, 101, 110, 97, 109, 101]⟩, .string ⟨#[109, 111, 118, 101]⟩, .string ⟨#[119, 105, 100, 101, 110]⟩, .string ⟨#[108, 111, 111, 115, 101, 110]⟩] 9)) := (Chg.refl _ _).alloc _
  have z0' := (hc2.cell (lt_of_at z0) nbE).trans z0
  have hb2 : Blk (w1.alloc (.cells #[.string ⟨#[100, 114, 111, 112]⟩, .string ⟨#[114, 101, 110, 97, 109, 101]⟩, .string ⟨#[109, 111, 118, 101]⟩, .string ⟨#[119, 105, 100, 101, 110]⟩, .string ⟨#[108, 111, 111, 115, 101, 110]⟩] 9)) w1.heap.size (verbs.map Value.string) 9 := Blk.newAt rfl
  go_wp2_with fail
  generalize World.alloc w1 _ = w2 at hc2 z0' hb2 ⊢
  refine (hasIndex_any verbs (mkB [109, 111, 118, 101]) w1.heap.size 0 5 w2 (by decide) (fun j z hz => by
   rw [Nat.zero_add, hb2.cell j, List.getElem?_map, hz]
   rfl)).mono ?_
  rintro en w3 ⟨rfl, h0⟩
  obtain rfl := h0.symm
  clear h0
  rw [show Lib.idxOfS verbs (mkB [109, 111, 118, 101]) = 2 from by decide +kernel]
  replace g0 := (hc2.cell (p := ⟨gb, 0, none⟩) (lt_of_at g0) nbE).trans g0
  replace g1 := (hc2.cell (p := ⟨gb, 1, none⟩) (lt_of_at g1) nbE).trans g1
  have hc02 := hc1.tr hc2
  clear z0 hb2
  go_wp2_with fail
  go_ret
  rw [Hed.out]
  exact ⟨Chg.mono (hc02) (fun _ _ e => nbE e), rfl⟩
end Go.Proofs.YtgcmfpcgmkkobaaGreatDoor
