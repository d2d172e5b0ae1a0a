/-
  SchemaTexts: the walk, by the contracts.
-/
import Derived.Test.YtfbbfhhhfbibjaaGreatDoorErrAny
import Derived.Test.YtfbbfhhhfbibjaaGreatDoorIsNode
import Derived.Test.YtfbbfhhhfbibjaaGreatDoorNodesText
import Derived.Test.YtfbbfhhhfbibjaaGreatDoorLeaf
namespace Go.Proofs.YtfbbfhhhfbibjaaGreatDoor
open Go.RowKit

set_option maxHeartbeats 400000 in
theorem schemaText_any (nd : Nd) (w : World) (S : Nat → Prop) (cs : List Value) (hr : Reads w S nd.dt cs) (hok : nd.ok) (hg : Nd.fines nd.sub ∧ (textL nd.sub []).length ≤ 140737488355328) :
    Calls Tryz.prog 15 #[.agg cs.toArray] w (RetV (.string ⟨(textL nd.sub []).toArray⟩) w) := by
  obtain ⟨i, nm, r, k, sb⟩ := nd
  obtain ⟨sv', rfl, hs⟩ := reads_nd.1 hr
  obtain ⟨sa, cap, rfl, _, _, _⟩ := reads_subs hs
  go_enter Tryz.func15, Tryz.ntmps15
  go_wp2_with fail
  generalize hw1 : World.alloc _ _ = w1
  have hc1 : Chg NoB w w1 := by
    rw [← hw1]
    repeat (first | exact Chg.refl _ _ | apply Chg.alloc | apply Chg.drew)
  have hb1 : Blk w1 (w.heap.size) (ndCells i nm r k (.slice sa sb.length cap)) 24 := by
    rw [← hw1]
    repeat (first | exact Blk.newAt (by first | rfl | (simp; done) | (simp; omega)) | apply Blk.alloc | apply Blk.drew)
  clear hw1
  have x0 : w1.cell? ⟨w.heap.size, 0, none⟩ = some (.int .i64 (i)) := hb1.cell 0
  have x1 : w1.cell? ⟨w.heap.size, 1, none⟩ = some (.string nm) := hb1.cell 1
  have x2 : w1.cell? ⟨w.heap.size, 2, none⟩ = some (.int .i64 (r)) := hb1.cell 2
  have x3 : w1.cell? ⟨w.heap.size, 3, none⟩ = some (.int .i64 (k)) := hb1.cell 3
  have x4 : w1.cell? ⟨w.heap.size, 4, none⟩ = some (.slice sa sb.length cap) := hb1.cell 4
  have l1 := hb1.lt
  have hn := nodesText_any (Nd.weighs sb) sb w1 S _ ⟨#[]⟩ (Nat.le_refl _) hg.1 hok.2.2.2.2.2 (hs.chg0 hc1) hg.2
  have Hn := Lib.hid hn
  clear hn
  go_wp2_with fail
  refine Hn.out.mono ?_
  rintro en w2 ⟨rfl, hc2⟩
  go_wp2_with fail
  go_ret
  exact ⟨rfl, hc1.tr hc2⟩

set_option maxHeartbeats 2000000 in
set_option maxRecDepth 100000 in
theorem texts_any (nd : Nd) (w : World) (S : Nat → Prop) (cs : List Value) (A : Nat → Addr) (E : Er → Value) (N : Value) (hG : Glo w.heap.size E w) (hA : Named w A E N) (hok : nd.ok) (hr : Reads w S nd.dt cs) (_hSB : ∀ b, S b → b < w.heap.size) :
    Calls Tryz.prog 3 #[.agg cs.toArray] w (RetV (.bool true) w) := by
  have hform := hG.errs.form
  have hok' := hok
  obtain ⟨i, nm, r, k, sb⟩ := nd
  have hr' := hr
  obtain ⟨sv', rfl, hs⟩ := reads_nd.1 hr'
  obtain ⟨sa, cap, rfl, hlen, hcap, hel⟩ := reads_subs hs
  go_enter Tryz.func3, Tryz.ntmps3
  go_wp2_with fail
  generalize hw1 : w.alloc _ = w1
  have hc1 : Chg NoB w w1 := by
    rw [← hw1]
    repeat (first | exact Chg.refl _ _ | apply Chg.alloc | apply Chg.drew)
  have hb1 : Blk w1 (w.heap.size) (ndCells i nm r k (.slice sa sb.length cap)) 24 := by
    rw [← hw1]
    repeat (first | exact Blk.newAt (by first | rfl | (simp; done) | (simp; omega)) | apply Blk.alloc | apply Blk.drew)
  clear hw1
  refine (leaf_any w1 E ((hG.keep0 hc1).up hc1.size)).mono ?_
  rintro en w2 ⟨rfl, hc2⟩
  have hb2 := hb1.keep hc2 NoB.elim
  have hc02 := hc1.tr hc2
  have c0 : w2.cell? ⟨w.heap.size, 0, none⟩ = some (.int .i64 (i)) := hb2.cell 0
  have c1 : w2.cell? ⟨w.heap.size, 1, none⟩ = some (.string nm) := hb2.cell 1
  have c2 : w2.cell? ⟨w.heap.size, 2, none⟩ = some (.int .i64 (r)) := hb2.cell 2
  have c3 : w2.cell? ⟨w.heap.size, 3, none⟩ = some (.int .i64 (k)) := hb2.cell 3
  have c4 : w2.cell? ⟨w.heap.size, 4, none⟩ = some (.slice sa sb.length cap) := hb2.cell 4
  go_wp2_with fail
  refine (tame_any (.mk i nm r k sb) w2 S _ (hr.chg0 hc02) hok).mono ?_
  rintro en w3 ⟨rfl, hc3⟩
  have hb3 := hb2.keep hc3 NoB.elim
  have hc03 := hc02.tr hc3
  have d0 : w3.cell? ⟨w.heap.size, 0, none⟩ = some (.int .i64 (i)) := hb3.cell 0
  have d1 : w3.cell? ⟨w.heap.size, 1, none⟩ = some (.string nm) := hb3.cell 1
  have d2 : w3.cell? ⟨w.heap.size, 2, none⟩ = some (.int .i64 (r)) := hb3.cell 2
  have d3 : w3.cell? ⟨w.heap.size, 3, none⟩ = some (.int .i64 (k)) := hb3.cell 3
  have d4 : w3.cell? ⟨w.heap.size, 4, none⟩ = some (.slice sa sb.length cap) := hb3.cell 4
  have l3 := hb3.lt
  cases ht : tameB (.mk i nm r k sb) with
  | false =>
    go_wp2_with fail
    go_ret
    exact ⟨rfl, hc03⟩
  | true =>
    go_wp2_with fail
    refine (err_any (.mk i nm r k sb) w3 S _ (hr.chg0 hc03) hok).mono ?_
    rintro en w4 ⟨rfl, hc4⟩
    have hb4 := hb3.keep hc4 NoB.elim
    have hc04 := hc03.tr hc4
    clear c0 c1 c2 c3 c4 d0 d1 d2 d3 d4
    have c0 : w4.cell? ⟨w.heap.size, 0, none⟩ = some (.int .i64 (i)) := hb4.cell 0
    have c1 : w4.cell? ⟨w.heap.size, 1, none⟩ = some (.string nm) := hb4.cell 1
    have c2 : w4.cell? ⟨w.heap.size, 2, none⟩ = some (.int .i64 (r)) := hb4.cell 2
    have c3 : w4.cell? ⟨w.heap.size, 3, none⟩ = some (.int .i64 (k)) := hb4.cell 3
    have c4 : w4.cell? ⟨w.heap.size, 4, none⟩ = some (.slice sa sb.length cap) := hb4.cell 4
    have l4 := hb4.lt
    go_wp2_with fail
    refine (ownNode_any _ (.mk i nm r k sb) w4 S _ (Nat.le_refl _) (hr.chg0 hc04) hok).mono ?_
    rintro en w5 ⟨cs5, rfl, hr5, hc5⟩
    have hb5 := hb4.keep hc5 NoB.elim
    have hc05 := hc04.tr hc5
    have hG5 := (hG.keep0 hc05).up hc05.size
    obtain ⟨sv5, rfl, hs5⟩ := reads_nd.1 hr5
    obtain ⟨sa5, cap5, rfl, _, _, _⟩ := reads_subs hs5
    go_wp2_with fail
    refine (text_any (.mk i nm r k sb) w5 _ _ E hG5.errs hG5.tabs hok hr5.lt (fun b hb => hb.2) good_of).mono ?_
    rintro en w6 ⟨rfl, hc6⟩
    have hb6 := hb5.keep hc6 NoB.elim
    have hc06 := hc05.tr hc6
    have hG6 := (hG.keep0 hc06).up hc06.size
    clear c0 c1 c2 c3 c4
    have c0 : w6.cell? ⟨w.heap.size, 0, none⟩ = some (.int .i64 (i)) := hb6.cell 0
    have c1 : w6.cell? ⟨w.heap.size, 1, none⟩ = some (.string nm) := hb6.cell 1
    have c2 : w6.cell? ⟨w.heap.size, 2, none⟩ = some (.int .i64 (r)) := hb6.cell 2
    have c3 : w6.cell? ⟨w.heap.size, 3, none⟩ = some (.int .i64 (k)) := hb6.cell 3
    have c4 : w6.cell? ⟨w.heap.size, 4, none⟩ = some (.slice sa sb.length cap) := hb6.cell 4
    have l6 := hb6.lt
    cases hv : validF (.mk i nm r k sb) with
    | some e =>
      obtain ⟨VT, Vv, hV⟩ := hform e
      have htx : textF (.mk i nm r k sb) = [] := by unfold textF; rw [if_neg (by rw [hv]; intro h; cases h)]
      rw [htx, show errVal E (some e) = .iface VT Vv from hV]
      have hT : Told w A (.iface VT Vv) (errNum (some e)) (-1) := by rw [← hV]; exact hA.told e
      have hpos : 0 < errNum (some e) ∧ errNum (some e) ≤ 100 := by cases e <;> exact ⟨by decide, by decide⟩
      obtain ⟨hpos1, hpos2⟩ := hpos
      have hval : ∀ w cs S, Errs w E → Reads w S (Nd.dt (.mk i nm r k sb)) cs → (∀ b, S b → b < w.heap.size) → Calls Tryz.prog 14 #[.agg cs.toArray] w (RetV (.iface VT Vv) w) := fun w cs S h1 h2 h3 => (valid_any _ w S cs E h1 hok h2 h3).mono fun en w' h => ⟨by rw [h.1, hv]; exact congrArg _ hV, h.2⟩
      clear hv hV htx
      generalize errNum (some e) = ne at *
      have HT := Lib.hid hT
      have HV := Lib.hid hval
      clear hT hval
      go_wp2_with fail
      refine (ownNode_any _ (.mk i nm r k sb) w6 S _ (Nat.le_refl _) (hr.chg0 hc06) hok).mono ?_
      rintro en w7 ⟨cs7, rfl, hr7, hc7⟩
      have hb7 := hb6.keep hc7 NoB.elim
      have hc07 := hc06.tr hc7
      have hG7 := (hG.keep0 hc07).up hc07.size
      obtain ⟨sv7, rfl, hs7⟩ := reads_nd.1 hr7
      obtain ⟨sa7, cap7, rfl, _, _, _⟩ := reads_subs hs7
      go_wp2_with fail
      refine (HV.out w7 _ _ hG7.errs hr7.lt (fun b hb => hb.2)).mono ?_
      rintro en w8 ⟨rfl, hc8⟩
      have hb8 := hb7.keep hc8 NoB.elim
      have hc08 := hc07.tr hc8
      go_wp2_with fail
      refine (coded_any (.iface VT Vv) ne (-1) ne w8 A (hA.sents.keep0 hc08) (HT.out.keep0 hc08) (by omega) (by omega)).mono ?_
      rintro en w9 ⟨rfl, hc9⟩
      have hb9 := hb8.keep hc9 NoB.elim
      have hc09 := hc08.tr hc9
      simp only [decide_true, Bool.and_self]
      have l9 := hb9.lt
      have d0 : w9.cell? ⟨w.heap.size, 0, none⟩ = some (.int .i64 (i)) := hb9.cell 0
      have d1 : w9.cell? ⟨w.heap.size, 1, none⟩ = some (.string nm) := hb9.cell 1
      have d2 : w9.cell? ⟨w.heap.size, 2, none⟩ = some (.int .i64 (r)) := hb9.cell 2
      have d3 : w9.cell? ⟨w.heap.size, 3, none⟩ = some (.int .i64 (k)) := hb9.cell 3
      have d4 : w9.cell? ⟨w.heap.size, 4, none⟩ = some (.slice sa sb.length cap) := hb9.cell 4
      go_wp2_with fail
      refine (coded_any (.iface VT Vv) ne (-1) ne w9 A (hA.sents.keep0 hc09) (HT.out.keep0 hc09) (by omega) (by omega)).mono ?_
      rintro en w10 ⟨rfl, hc10⟩
      simp only [decide_true, Bool.and_self]
      go_wp2_with fail
      go_ret
      exact ⟨rfl, hc09.tr hc10⟩
    | none =>
      have htx : textF (.mk i nm r k sb) = textL sb [] := by unfold textF; rw [if_pos hv]; rfl
      rw [htx, show errVal E none = .nilIface from rfl]
      have hT : Told w A .nilIface 0 (-1) := .nil
      have hval : ∀ w cs S, Errs w E → Reads w S (Nd.dt (.mk i nm r k sb)) cs → (∀ b, S b → b < w.heap.size) → Calls Tryz.prog 14 #[.agg cs.toArray] w (RetV .nilIface w) := fun w cs S h1 h2 h3 => (valid_any _ w S cs E h1 hok h2 h3).mono fun en w' h => ⟨by rw [h.1, hv]; rfl, h.2⟩
      have hg := good_of hv
      have hen : errNum none = 0 := rfl
      rw [hen]
      clear hv htx hen
      have HT := Lib.hid hT
      have HV := Lib.hid hval
      have HG := Lib.hid hg
      clear hT hval hg
      go_wp2_with fail
      refine (ownNode_any _ (.mk i nm r k sb) w6 S _ (Nat.le_refl _) (hr.chg0 hc06) hok).mono ?_
      rintro en w7 ⟨cs7, rfl, hr7, hc7⟩
      have hb7 := hb6.keep hc7 NoB.elim
      have hc07 := hc06.tr hc7
      have hG7 := (hG.keep0 hc07).up hc07.size
      obtain ⟨sv7, rfl, hs7⟩ := reads_nd.1 hr7
      obtain ⟨sa7, cap7, rfl, _, _, _⟩ := reads_subs hs7
      go_wp2_with fail
      refine (HV.out w7 _ _ hG7.errs hr7.lt (fun b hb => hb.2)).mono ?_
      rintro en w8 ⟨rfl, hc8⟩
      have hb8 := hb7.keep hc8 NoB.elim
      have hc08 := hc07.tr hc8
      go_wp2_with fail
      refine (coded_any .nilIface 0 (-1) 0 w8 A (hA.sents.keep0 hc08) (HT.out.keep0 hc08) (by omega) (by omega)).mono ?_
      rintro en w9 ⟨rfl, hc9⟩
      have hb9 := hb8.keep hc9 NoB.elim
      have hc09 := hc08.tr hc9
      simp only [decide_true, Bool.and_self]
      have l9 := hb9.lt
      have d0 : w9.cell? ⟨w.heap.size, 0, none⟩ = some (.int .i64 (i)) := hb9.cell 0
      have d1 : w9.cell? ⟨w.heap.size, 1, none⟩ = some (.string nm) := hb9.cell 1
      have d2 : w9.cell? ⟨w.heap.size, 2, none⟩ = some (.int .i64 (r)) := hb9.cell 2
      have d3 : w9.cell? ⟨w.heap.size, 3, none⟩ = some (.int .i64 (k)) := hb9.cell 3
      have d4 : w9.cell? ⟨w.heap.size, 4, none⟩ = some (.slice sa sb.length cap) := hb9.cell 4
      go_wp2_with fail
      refine (schemaText_any (.mk i nm r k sb) w9 S _ (hr.chg0 hc09) hok HG.out).mono ?_
      rintro en w10 ⟨rfl, hc10⟩
      rw [show Nd.sub (.mk i nm r k sb) = sb from rfl]
      go_wp2_with fail
      go_ret
      exact ⟨rfl, hc09.tr hc10⟩
end Go.Proofs.YtfbbfhhhfbibjaaGreatDoor
