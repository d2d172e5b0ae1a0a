/-
  shredcolref3.PassOf.
-/
import Derived.Test.YtkchmgjmecojcaaGreatDoorShredNil
import Derived.Test.YtkchmgjmecojcaaGreatDoorFOpenOf
import Derived.Deep.DeepCutAuto
set_option linter.unusedVariables false
set_option maxHeartbeats 20000000
set_option maxRecDepth 100000
set_option linter.unusedSimpArgs false
namespace Go.Proofs.YtkchmgjmecojcaaGreatDoor
open Go.RowKit
def errJ (e : Nat) : Ending := .returned (.tuple #[.string ⟨#[]⟩, .int .i64 (e : Nat)])
theorem passOf_any (l : List UInt8) (z : Int) (t : ByteArray) (w : World) (hb : l.length ≤ 9000000000000000000) (ht : t.size ≤ 1000000) :
  Calls Tryz.prog 6 #[.string ⟨l.toArray⟩, .int .i64 z, .string t] w (RetPs errJ (.int .i64 0) (passF l z t.data.toList) w) := by
 go_enter Tryz.func6, Tryz.ntmps6
 go_wp2_with fail
 refine (openOf_any l w hb).mono ?_
 rintro en w1 hm1
 cases ho : openF l with
 | bad e =>
  rw [ho] at hm1
  obtain ⟨hc1, rfl⟩ := hm1
  have hcode := open_code ho
  have heI : (0 : Int) < (e : Int) := by omega
  have Ho := Lib.hid ho
  clear ho hcode
  unfold errI
  simp only [zeroFt]
  go_wp2_with fail
  go_ret2
  refine ⟨hc1.alloc _, ?_⟩
  rw [pass_open Ho.out]
  rfl
 | ok root gs n =>
  rw [ho] at hm1
  obtain ⟨i, nm, r, k, a, m, c, ga, gn, gc, rfl, hc1, -, -, -⟩ := ft_form hm1
  obtain ⟨hle, hle2⟩ := open_le ho
  have Ho := Lib.hid ho
  clear ho hm1
  have hnI : (n : Int) + 16 ≤ (l.length : Int) := by omega
  by_cases hz : 3 ≤ z ∧ z ≤ 1000
  ·obtain ⟨hz1, hz2⟩ := hz
   have hz1' : decide (z < 3) = false := by simp; omega
   have hz2' : decide (1000 < z) = false := by simp; omega
   go_upto_region 4 with fail
   generalize hw2 : World.alloc _ _ = w2
   have hc2 : Chg NoB w1 w2 := by
    rw [← hw2]
    repeat (first | exact Chg.refl _ _ | apply Chg.alloc | apply Chg.drew)
   have hb2 : Blk w2 (w1.heap.size) ([.int .i64 i, .string nm, .int .i64 r, .int .i64 k, .slice a m c, .slice ga gn gc, .int .i64 (n : Nat)]) 45 := by
    rw [← hw2]
    repeat (first | exact Blk.newAt (by first | rfl | (simp; done) | (simp; omega)) | apply Blk.alloc | apply Blk.drew)
   clear hw2
   have x6 : w2.cell? ⟨w1.heap.size, 6, none⟩ = some (.int .i64 (n : Nat)) := hb2.cell 6
   have hl6 := hb2.lt
   go_wp2_with fail
   obtain ⟨zn, rfl⟩ := Int.eq_ofNat_of_zero_le (show 0 ≤ z by omega)
   obtain ⟨a0, ha0⟩ : ∃ q, q = l.length - 12 - n := ⟨_, rfl⟩
   rw [show ((l.length : Int) - 12 - (n : Int)) = (a0 : Int) from by omega]
   have haE : a0 + n + 12 = l.length := by omega
   have Ha0 := Lib.hid ha0
   clear ha0
   have hlE := entry_len2 t.data.toList (by rw [size_list]; omega)
   rw [size_list] at hlE
   have hlU := Lib.uvarint_length64 (x := zn) (by omega)
   have hlen2 : (entryL zn t.data.toList).length ≤ t.size + 20 := by unfold entryL; rw [List.length_append]; omega
   have hlF := ftxt_le l n
   have HX1 := Lib.hid (ext_body l a0)
   have HX2 := Lib.hid (ext_tail3 l a0 n (by omega))
   have HszB := Lib.hid (show ((⟨l.toArray⟩ : ByteArray).extract 4 a0).size ≤ 1000000000 from by rw [HX1.out, siz_list, List.length_take]; omega)
   refine wp_region_n (fun w' => w'.cell? ⟨w1.heap.size, 6, none⟩ = some (.int .i64 (n : Nat))) [] (by kernel_rfl) ?_ (fun hSh => ?_)
   ·exact x6
   have u1 : (4 : Int) ≤ (a0 : Int) := by omega
   have u2 : (a0 : Int) ≤ (l.length : Int) := by omega
   have u3 : IntKind.i64.wrap ((a0 : Int) + (n : Int)) = (a0 : Int) + (n : Int) := IntWalk.i64_in _ (by omega)
   have u4 : ((a0 : Int) + (n : Int)).toNat = a0 + n := by omega
   have u5 : (a0 : Int) + (n : Int) ≤ (l.length : Int) := by omega
   have u6 : (0 : Int) ≤ (a0 : Int) + (n : Int) := by omega
   have u7 : (a0 : Int) ≤ (a0 : Int) + (n : Int) := by omega
   refine n_from 0 ?_
   intro htk
   iterate 5
    refine n_tB (v := ?_) htk rfl (Or.inl ⟨by rfl, ?_⟩) ?_
    rotate_left 1
    ·(intro w' hSw; (try dsimp only at hSw); go_simp; try with_reducible rfl)
    clear htk
    intro htk
    simp only [Nat.reduceAdd] at htk
    simp only [Act.put, qA, qB, qC, qD, qE, qF]
   clear htk
   refine n_from 6 ?_
   intro htk
   iterate 7
    refine n_tB (v := ?_) htk rfl (Or.inl ⟨by rfl, ?_⟩) ?_
    rotate_left 1
    ·(intro w' hSw; (try dsimp only at hSw); go_simp; try with_reducible rfl)
    clear htk
    intro htk
    simp only [Nat.reduceAdd] at htk
    simp only [Act.put, qA, qB, qC, qD, qE, qF]
   clear htk
   clear u3 u4
   refine n_step 5 rfl (by kernel_rfl) ?_
   go_wp2_with fail
   rw [HX1.out, HX2.out]
   refine (footTextR_any zn t _ (by omega) (by omega)).mono ?_
   rintro en w3 ⟨rfl, hc3⟩
   have x6' := (hc3.cell (p := ⟨w1.heap.size, 6, none⟩) hl6 nbE).trans x6
   go_wp2_with fail
   refine ⟨fun _ => x6', fun hSk => ?_⟩
   replace hSk := hSk (by rfl)
   refine n_tA (v := ?_) 13 rfl (Or.inl ⟨by rfl, ?_⟩) ?_
   rotate_left 1
   ·(intro w' hSw; (try dsimp only at hSw); go_simp; rw [if_neg (by (try simp only [ByteArray.size_append, bsize1, bsize2]); omega)])
   simp only [Act.put, qA, qB, qC, qD, qE, qF]
   rw [bcat]
   refine n_step 14 rfl (by kernel_rfl) ?_
   go_wp2_with fail
   refine (wrapL_any _ _ _ (by rw [List.length_take, List.length_drop]; omega) (by rw [List.length_append]; omega)).mono ?_
   rintro en w4 ⟨rfl, hc4⟩
   have x6'' := (hc4.cell (p := ⟨w1.heap.size, 6, none⟩) (Nat.lt_of_lt_of_le hl6 hc3.size) nbE).trans x6'
   go_wp2_with fail
   refine ⟨fun _ => x6'', fun hSk => ?_⟩
   replace hSk := hSk (by rfl)
   refine n_tA (v := ?_) 15 rfl (Or.inl ⟨by rfl, ?_⟩) ?_
   rotate_left 1
   ·(intro w' hSw; (try dsimp only at hSw); go_simp; try with_reducible rfl)
   simp only [Act.put, qA, qB, qC, qD, qE, qF]
   refine n_done (by kernel_rfl) ?_
   have hpo : wrapL ((l.drop 4).take (a0 - 4)) (entryL zn t.data.toList ++ footText l n) = passO l t.data.toList zn n := by rw [passO, ← Ha0.out]
   rw [hpo]
   have hc04 : Chg NoB w w4 := ((hc1.tr hc2).tr hc3.ofDrew).tr hc4
   obtain ⟨o, hoo⟩ : ∃ q, q = passO l t.data.toList zn n := ⟨_, rfl⟩
   rw [← hoo]
   have Hoo := Lib.hid hoo
   have hznN : (zn : Int).toNat = zn := Int.toNat_natCast zn
   clear hoo hpo hSk x6'' x6' x6
   by_cases hbig : 200000 < o.length
   ·have hbig' : (200000 : Int) < (o.length : Int) := by omega
    go_wp2_with fail
    go_ret2
    refine ⟨hc04, ?_⟩
    rw [pass_big Ho.out ⟨hz1, hz2⟩ (by rw [hznN, ← Hoo.out]; exact hbig)]
    rfl
   ·have hbig' : ¬ (200000 : Int) < (o.length : Int) := by omega
    go_wp2_with fail
    go_ret2
    refine ⟨hc04, ?_⟩
    rw [pass_fine Ho.out ⟨hz1, hz2⟩ (by rw [hznN, ← Hoo.out]; omega), hznN, ← Hoo.out]
    rfl
  ·have hz' : z < 3 ∨ 1000 < z := by omega
   have Hz := Lib.hid hz'
   clear hz
   rcases hz' with hz' | hz'
   ·have hz1 : decide (z < 3) = true := by simp; omega
    go_wp2_with fail
    go_ret2
    refine ⟨hc1.alloc _, ?_⟩
    rw [pass_num Ho.out Hz.out]
    rfl
   ·have hz1 : decide (z < 3) = false := by simp; omega
    have hz2 : decide (1000 < z) = true := by simp; omega
    go_wp2_with fail
    go_ret2
    refine ⟨hc1.alloc _, ?_⟩
    rw [pass_num Ho.out Hz.out]
    rfl
end Go.Proofs.YtkchmgjmecojcaaGreatDoor
