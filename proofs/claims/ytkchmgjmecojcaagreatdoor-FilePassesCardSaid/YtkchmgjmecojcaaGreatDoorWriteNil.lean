/-
  file.Write of no records.; shredcollaw3.bare: the law's closed fact.
-/
import Derived.Test.YtkchmgjmecojcaaGreatDoorShredNil
import Derived.Test.YtkchmgjmecojcaaGreatDoorTextAll
import Derived.Test.YtkchmgjmecojcaaGreatDoorLeavesAll
import Derived.Deep.DeepCutAuto
import Derived.Test.YtkchmgjmecojcaaGreatDoorFtRes
import Derived.Test.YtkchmgjmecojcaaGreatDoorFOpen
import Derived.Test.YtkchmgjmecojcaaGreatDoorWalk
set_option linter.unusedVariables false
set_option maxHeartbeats 20000000
set_option maxRecDepth 100000
set_option linter.unusedSimpArgs false
namespace Go.Proofs.YtkchmgjmecojcaaGreatDoor
open Go.RowKit
theorem text_small {nd : Nd} (hv : validF nd = none) : (textF nd).length ≤ 10000 := by
 have hS := schema_of_valid hv
 have h1 := hS.high
 have h2 := hS.small
 have h3 := texts_len nd.sub [] 12 hS.right (by
  obtain ⟨i, nm, r, k, s⟩ := nd
  simp only [Nd.high, Nd.sub] at h1 ⊢
  simp only [List.length_nil]
  omega)
 have h4 : Nd.weighs nd.sub ≤ 40 := by
  obtain ⟨i, nm, r, k, s⟩ := nd
  simp only [Nd.weigh, Nd.sub] at h2 ⊢
  omega
 have h5 : Nd.weighs nd.sub * (2 * 12 + 60) ≤ 40 * (2 * 12 + 60) := Nat.mul_le_mul_right _ h4
 unfold textF
 rw [if_pos hv]
 omega
theorem stringNil_any {p : Value} {b : Nat} (w : World) (h : Blk w b [p, .slice none 0 0] 60) : Calls Tryz.prog 26 #[.pointer (some ⟨b, 0, none⟩)] w fun en w' => en = .returned (.string ⟨#[]⟩) ∧ Chg NoB w w' :=
 (Any.Builder_String_nil Tryz.lays169 Tryz.Builder_Extra_169 w.heap.size b p w h).mono fun _ _ h => ⟨h.1, Chg.ofBelow h.2⟩
theorem writeNil_any (nd : Nd) (w : World) (S : Nat → Prop) (cs : List Value) (E : Er → Value) (hG : Glo w.heap.size E w) (hok : nd.ok) (hv : validF nd = none) (hr : Reads w S nd.dt cs) (hSB : ∀ b, S b → b < w.heap.size) :
  Calls Tryz.prog 8 #[.agg cs.toArray, .slice none 0 0, .int .i64 1, .int .i64 1] w (RetV (.tuple #[.string ⟨(wrapL [] (entryL 1 (textF nd) ++ entryL 2 [])).toArray⟩, .nilIface]) w) := by
 have hr0 := hr
 obtain ⟨i, nm, r, k, sb⟩ := nd
 have hr' := hr
 obtain ⟨sv0, rfl, hs⟩ := reads_nd.1 hr'
 obtain ⟨sa, cap, rfl, -, -, -⟩ := reads_subs hs
 clear hs hr'
 go_enter Tryz.func8, Tryz.ntmps8
 go_wp2_with fail
 generalize hw1 : World.alloc _ _ = w1
 have hc1 : Chg NoB w w1 := by
  rw [← hw1]
  repeat (first | exact Chg.refl _ _ | apply Chg.alloc | apply Chg.drew)
 have hb1 : Blk w1 (w.heap.size) (ndCells i nm r k (.slice sa sb.length cap)) 33 := by
  rw [← hw1]
  repeat (first | exact Blk.newAt (by first | rfl | (simp; done) | (simp; omega)) | apply Blk.alloc | apply Blk.drew)
 clear hw1
 have hSB1 : ∀ b, S b → b < w1.heap.size := fun b hb => Nat.lt_of_lt_of_le (hSB b hb) hc1.size
 refine (shredNil_any (.mk i nm r k sb) w1 S _ E (hG.keep0 hc1).errs hok hv (hr.chg0 hc1) hSB1).mono ?_
 rintro en w2 ⟨⟨a2, n2, c2, rfl⟩, hc2⟩
 have hb2 := hb1.keep hc2 nbE
 have hc02 := hc1.tr hc2
 have x0 : w2.cell? ⟨w.heap.size, 0, none⟩ = some (.int .i64 (i)) := hb2.cell 0
 have x1 : w2.cell? ⟨w.heap.size, 1, none⟩ = some (.string nm) := hb2.cell 1
 have x2 : w2.cell? ⟨w.heap.size, 2, none⟩ = some (.int .i64 (r)) := hb2.cell 2
 have x3 : w2.cell? ⟨w.heap.size, 3, none⟩ = some (.int .i64 (k)) := hb2.cell 3
 have x4 : w2.cell? ⟨w.heap.size, 4, none⟩ = some (.slice sa sb.length cap) := hb2.cell 4
 go_wp2_with fail
 have hSB2 : ∀ b, S b → b < w2.heap.size := fun b hb => Nat.lt_of_lt_of_le (hSB b hb) hc02.size
 refine (leavesAll_any (.mk i nm r k sb) w2 S _ E (hG.keep0 hc02).errs hok (hr.chg0 hc02) hSB2).mono ?_
 rintro en w3 ⟨hc3, hm3⟩
 rw [hv] at hm3
 obtain ⟨a3, c3, rfl, -⟩ := hm3
 have hb3 := hb2.keep hc3 nbE
 have hc03 := hc02.tr hc3
 clear x0 x1 x2 x3 x4
 have x0 : w3.cell? ⟨w.heap.size, 0, none⟩ = some (.int .i64 (i)) := hb3.cell 0
 have x1 : w3.cell? ⟨w.heap.size, 1, none⟩ = some (.string nm) := hb3.cell 1
 have x2 : w3.cell? ⟨w.heap.size, 2, none⟩ = some (.int .i64 (r)) := hb3.cell 2
 have x3 : w3.cell? ⟨w.heap.size, 3, none⟩ = some (.int .i64 (k)) := hb3.cell 3
 have x4 : w3.cell? ⟨w.heap.size, 4, none⟩ = some (.slice sa sb.length cap) := hb3.cell 4
 have hbl := hb3.lt
 go_wp2_with fail
 generalize hw4 : World.alloc _ _ = w4
 have hc4 : Chg NoB w3 w4 := by
  rw [← hw4]
  repeat (first | exact Chg.refl _ _ | apply Chg.alloc | apply Chg.drew)
 have hd4 : Blk w4 (w3.heap.size) ([.pointer none, .slice none 0 0]) 60 := by
  rw [← hw4]
  repeat (first | exact Blk.newAt (by first | rfl | (simp; done) | (simp; omega)) | apply Blk.alloc | apply Blk.drew)
 have hq4 : Blk w4 (w3.heap.size + 1) ([.pointer none, .slice none 0 0]) 60 := by
  rw [← hw4]
  repeat (first | exact Blk.newAt (by first | rfl | (simp; done) | (simp; omega)) | apply Blk.alloc | apply Blk.drew)
 clear hw4
 have hb4 := hb3.keep hc4 nbE
 have hc04 := hc03.tr hc4
 clear x0 x1 x2 x3 x4
 have x0 : w4.cell? ⟨w.heap.size, 0, none⟩ = some (.int .i64 (i)) := hb4.cell 0
 have x1 : w4.cell? ⟨w.heap.size, 1, none⟩ = some (.string nm) := hb4.cell 1
 have x2 : w4.cell? ⟨w.heap.size, 2, none⟩ = some (.int .i64 (r)) := hb4.cell 2
 have x3 : w4.cell? ⟨w.heap.size, 3, none⟩ = some (.int .i64 (k)) := hb4.cell 3
 have x4 : w4.cell? ⟨w.heap.size, 4, none⟩ = some (.slice sa sb.length cap) := hb4.cell 4
 refine wp_loop_rounds 1 ?_
 rw [rounds_succ]
 go_wp2_with fail
 have hSB4 : ∀ b, S b → b < w4.heap.size := fun b hb => Nat.lt_of_lt_of_le (hSB b hb) hc04.size
 have hsz4 := hc04.size
 refine (text_any (.mk i nm r k sb) w4 S _ E (hG.keep0 hc04).errs ((hG.keep0 hc04).tabs.up hsz4) hok (hr.chg0 hc04) hSB4 good_of).mono ?_
 rintro en w5 ⟨rfl, hc5⟩
 have htl := text_small hv
 obtain ⟨T, hT⟩ : ∃ z, z = textF (.mk i nm r k sb) := ⟨_, rfl⟩
 rw [← hT] at htl ⊢
 rw [hv, show errVal E none = .nilIface from rfl]
 have hd5 := hd4.keep hc5 nbE
 have hq5 := hq4.keep hc5 nbE
 have hc05 := hc04.tr hc5
 have HT := Lib.hid hT
 have hwid : (wrapL [] (entryL 1 T ++ entryL 2 [])) = wrapL [] (entryL 1 (textF (.mk i nm r k sb)) ++ entryL 2 []) := by rw [hT]
 have HW := Lib.hid hwid
 have Hf1 := Lib.hid (fun w => fEntry_any 1 ⟨T.toArray⟩ w (by decide) (by rw [siz_list]; omega))
 have Hf2 := Lib.hid (fun w => fEntry_any 2 ⟨#[]⟩ w (by decide) (by decide))
 have hl1 : (entryL 1 T).length ≤ T.length + 20 := by
  have := Lib.uvarint_length64 (x := 1) (by decide)
  have := entry_len2 T (by omega)
  unfold entryL
  rw [List.length_append]
  omega
 have hl2 : (entryL 2 []).length ≤ 20 := by
  have := Lib.uvarint_length64 (x := 2) (by decide)
  have := entry_len2 [] (by decide)
  rw [List.length_nil] at this
  unfold entryL
  rw [List.length_append]
  omega
 clear hT hv hwid x0 x1 x2 x3 x4
 go_wp2_with fail
 refine (stringNil_any w5 hd5).mono ?_
 rintro en w6 ⟨rfl, hc6⟩
 have hq6 := hq5.keep hc6 nbE
 have hc06 := hc05.tr hc6
 clear hd5 hq5 hc5
 go_wp2_with fail
 refine (Hf1.out w6).mono ?_
 rintro en w7 ⟨rfl, hc7⟩
 have hq7 := hq6.keep hc7 nbE
 have hc07 := hc06.tr hc7
 go_wp2_with fail
 refine (stringNil_any w7 hq7).mono ?_
 rintro en w8 ⟨rfl, hc8⟩
 have hc08 := hc07.tr hc8
 clear hq7 hq6
 go_wp2_with fail
 refine (Hf2.out w8).mono ?_
 rintro en w9 ⟨rfl, hc9⟩
 have hc09 := hc08.tr hc9
 go_wp2_with fail
 obtain ⟨F, hF⟩ : ∃ F : ByteArray, (⟨(entryL 1 T).toArray⟩ : ByteArray) ++ ⟨(entryL 2 []).toArray⟩ = F := ⟨_, rfl⟩
 have hF2 : F = ⟨(entryL 1 T ++ entryL 2 []).toArray⟩ := by rw [← hF, bcat]
 subst hF2
 rw [hF]
 refine (fClosedL_any [] (entryL 1 T ++ entryL 2 []) w9 (by decide) (by
  rw [List.length_append]
  omega)).mono ?_
 rintro en w10 ⟨rfl, hc10⟩
 have hc010 := hc09.tr hc10
 clear hF
 go_wp2_with fail
 go_ret2
 exact ⟨by rw [HW.out]; rfl, hc010⟩
theorem bareF_any (w : World) (A : Nat → Addr) (E : Er → Value) (N : Value) (hG : Glo w.heap.size E w) (hA : Named w A E N) : Calls Tryz.prog 4 #[] w (RetV (.bool true) w) := by
 go_enter Tryz.func4, Tryz.ntmps4
 go_wp2_with fail
 generalize hw1 : World.alloc _ _ = w1
 have hc1 : Chg NoB w w1 := by
  rw [← hw1]
  repeat (first | exact Chg.refl _ _ | apply Chg.alloc | apply Chg.drew)
 have hb1 : Blk w1 (w.heap.size) ([.int .i64 1, .string ⟨#[97]⟩, .int .i64 1, .int .i64 1, .slice none 0 0]) 33 := by
  rw [← hw1]
  repeat (first | exact Blk.newAt (by first | rfl | (simp; done) | (simp; omega)) | apply Blk.alloc | apply Blk.drew)
 have hr1 : Blk w1 (w.heap.size + 1) ([.int .i64 0, .string rootName, .int .i64 1, .int .i64 0, .slice (some ⟨w.heap.size, 0, none⟩) 1 1]) 33 := by
  rw [← hw1]
  repeat (first | exact Blk.newAt (by first | rfl | (simp; done) | (simp; omega)) | apply Blk.alloc | apply Blk.drew)
 clear hw1
 have hrd1 := bare_reads hb1
 refine (writeNil_any bareNd w1 _ _ E ((hG.keep0 hc1).upTo hc1.size) bareNd_ok bare_valid hrd1 (fun b e => by have e : b = w.heap.size := e; have := hb1.lt; omega)).mono ?_
 rintro en w2 ⟨rfl, hc2⟩
 have hc02 := hc1.tr hc2
 have hr2 := hr1.keep hc2 nbE
 have hrd2 := hrd1.chg0 hc2
 have hop := bare_open
 have hln : (wrapL [] (entryL 1 (textF bareNd) ++ entryL 2 [])).length ≤ 9000000000000000000 := by
  have := open_le hop
  omega
 obtain ⟨L, hL⟩ : ∃ L, L = wrapL [] (entryL 1 (textF bareNd) ++ entryL 2 []) := ⟨_, rfl⟩
 rw [← hL] at hop hln ⊢
 obtain ⟨z, hz⟩ : ∃ z, z = (entryL 1 bareText ++ entryL 2 []).length := ⟨_, rfl⟩
 rw [← hz] at hop
 clear hL hz
 go_wp2_with fail
 refine (fOpen_any L w2 A E N ((hG.keep0 hc02).upTo hc02.size) (hA.keep0 hc02) hln).mono ?_
 rintro en w3 hm3
 rw [hop] at hm3
 obtain ⟨i, nm, r, k, a, m, c, ga, gn, gc, rfl, hc3, hrd3, -, rfl⟩ := ft_form hm3
 clear hm3 hop
 have hc03 := hc02.tr hc3
 have hr3 := hr2.keep hc3 nbE
 have hrd3a := hrd2.chg0 hc3
 go_upto_region 6 with fail
 generalize hw4 : World.alloc _ _ = w4
 have hc4 : Chg NoB w3 w4 := by
  rw [← hw4]
  repeat (first | exact Chg.refl _ _ | apply Chg.alloc | apply Chg.drew)
 have hb4 : Blk w4 (w3.heap.size) ([.int .i64 i, .string nm, .int .i64 r, .int .i64 k, .slice a m c, .slice ga ([] : List Pt).length gc, .int .i64 (z : Nat)]) 37 := by
  rw [← hw4]
  repeat (first | exact Blk.newAt (by first | rfl | (simp; done) | (simp; omega)) | apply Blk.alloc | apply Blk.drew)
 clear hw4
 have hr4 := hr3.keep hc4 nbE
 have hrd4 := hrd3.chg0 hc4
 have hrd4a := hrd3a.chg0 hc4
 have hc04 := hc03.tr hc4
 rw [List.length_nil] at hb4
 have y0 : w4.cell? ⟨w3.heap.size, 0, none⟩ = some (.int .i64 (i)) := hb4.cell 0
 have y1 : w4.cell? ⟨w3.heap.size, 1, none⟩ = some (.string nm) := hb4.cell 1
 have y2 : w4.cell? ⟨w3.heap.size, 2, none⟩ = some (.int .i64 (r)) := hb4.cell 2
 have y3 : w4.cell? ⟨w3.heap.size, 3, none⟩ = some (.int .i64 (k)) := hb4.cell 3
 have y4 : w4.cell? ⟨w3.heap.size, 4, none⟩ = some (.slice a m c) := hb4.cell 4
 have y5 : w4.cell? ⟨w3.heap.size, 5, none⟩ = some (.slice ga 0 gc) := hb4.cell 5
 have y6 : w4.cell? ⟨w3.heap.size, 6, none⟩ = some (.int .i64 ((z : Nat))) := hb4.cell 6
 have x0 : w4.cell? ⟨w.heap.size + 1, 0, none⟩ = some (.int .i64 (0)) := hr4.cell 0
 have x1 : w4.cell? ⟨w.heap.size + 1, 1, none⟩ = some (.string rootName) := hr4.cell 1
 have x2 : w4.cell? ⟨w.heap.size + 1, 2, none⟩ = some (.int .i64 (1)) := hr4.cell 2
 have x3 : w4.cell? ⟨w.heap.size + 1, 3, none⟩ = some (.int .i64 (0)) := hr4.cell 3
 have x4 : w4.cell? ⟨w.heap.size + 1, 4, none⟩ = some (.slice (some ⟨w.heap.size, 0, none⟩) 1 1) := hr4.cell 4
 go_wp2_with fail
 refine (sameNode_yes 100 bareNd w4 _ _ _ _ (by decide) hrd4 hrd4a bareNd_ok).mono ?_
 rintro en w5 ⟨rfl, hc5⟩
 go_wp2_with fail
 go_ret
 exact ⟨rfl, hc04.tr hc5⟩
end Go.Proofs.YtkchmgjmecojcaaGreatDoor
