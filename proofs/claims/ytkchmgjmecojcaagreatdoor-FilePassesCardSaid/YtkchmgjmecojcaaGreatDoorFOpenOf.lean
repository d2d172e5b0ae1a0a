/-
  shredcolref3.OpenOf.
-/
import Derived.Test.YtkchmgjmecojcaaGreatDoorFtRes
import Derived.Test.YtkchmgjmecojcaaGreatDoorSumR
import Derived.Test.YtkchmgjmecojcaaGreatDoorParts
import Derived.Test.YtkchmgjmecojcaaGreatDoorSchOf
import Derived.Test.YtkchmgjmecojcaaGreatDoorLeavesOf
import Derived.Test.YtkchmgjmecojcaaGreatDoorGrp
import Derived.Deep.DeepCutAuto
set_option linter.unusedVariables false
set_option maxHeartbeats 20000000
set_option maxRecDepth 100000
set_option linter.unusedSimpArgs false
namespace Go.Proofs.YtkchmgjmecojcaaGreatDoor
open Go.RowKit
def errI (e : Nat) : Ending := .returned (.tuple #[zeroFt, .int .i64 (e : Nat)])
theorem ext_foot3 (l : List UInt8) (a n : Nat) (h : a + n + 12 = l.length) : (⟨l.toArray⟩ : ByteArray).extract a (a + n) = ⟨(footText l n).toArray⟩ := by
 rw [ext_of, dat_list]
 unfold footText
 rw [show a + n - a = n from by omega, show l.length - 12 - n = a from by omega]
theorem schemaOf_short (s : ByteArray) (w : World) (hbig : s.size ≤ 9223372036854775807) :
  Calls Tryz.prog 37 #[.string s] w (fun en w' => Chg NoB w w' ∧ match readF s with
   | .ok n => ∃ cs, en = .returned (.tuple #[.agg cs.toArray, .agg #[.int .i64 0, .int .i64 (-1)]]) ∧ Reads w' (fun b => w.heap.size ≤ b) n.dt cs
   | _ => ∃ c a : Int, 0 < c ∧ en = .returned (.tuple #[.agg #[.int .i64 0, .string ⟨#[]⟩, .int .i64 0, .int .i64 0, .slice none 0 0], .agg #[.int .i64 c, .int .i64 a]])) := by
 refine (schemaOf_any s w hbig).mono ?_
 rintro en w' ⟨h1, h2⟩
 refine ⟨h1, ?_⟩
 cases hr : readF s with
 | ok n => rw [hr] at h2; exact h2
 | er e => rw [hr] at h2; exact ⟨_, _, by cases e <;> decide, h2⟩
 | bad e q => rw [hr] at h2; exact ⟨_, _, by cases e <;> decide, h2⟩
theorem so_no {s : ByteArray} {w : World} {en : Ending} {w' : World} (hno : (readF s).isOk = false) (h : match readF s with
   | .ok n => ∃ cs, en = .returned (.tuple #[.agg cs.toArray, .agg #[.int .i64 0, .int .i64 (-1)]]) ∧ Reads w' (fun b => w.heap.size ≤ b) n.dt cs
   | _ => ∃ c a : Int, 0 < c ∧ en = .returned (.tuple #[.agg #[.int .i64 0, .string ⟨#[]⟩, .int .i64 0, .int .i64 0, .slice none 0 0], .agg #[.int .i64 c, .int .i64 a]])) :
  ∃ c a : Int, 0 < c ∧ en = .returned (.tuple #[.agg #[.int .i64 0, .string ⟨#[]⟩, .int .i64 0, .int .i64 0, .slice none 0 0], .agg #[.int .i64 c, .int .i64 a]]) := by
 cases hr : readF s with
 | ok n => rw [hr] at hno; cases hno
 | er e => rw [hr] at h; exact h
 | bad e q => rw [hr] at h; exact h
theorem infoSpotR : (Tryz.prog.info? 103).map (fun i => (i.zero, i.size, i.bytes)) = some (some (.agg #[.int .i64 0, .int .i64 0]), 2, 16) := by kernel_rfl
theorem infoPartR : (Tryz.prog.info? 101).map (fun i => (i.zero, i.size, i.bytes)) = some (some (.agg #[.int .i64 0, .slice none 0 0]), 2, 32) := by kernel_rfl
def PiRelR (k : Nat) (rest : List Nat) (a x0 : Nat) (w0 : World) (vi va : Value) (wi : World) : Prop :=
 ∃ (i : Nat) (vch : Value), i ≤ k ∧ vi = .int .i64 (i : Nat) ∧ va = .int .i64 (spotAt rest a i : Nat) ∧ spotOk rest a i = true ∧ Blk wi w0.heap.size [.int .i64 (x0 : Nat), vch] 101 ∧
  Own wi (w0.heap.size + 1) 103 2 (fun _ => False) vch ((spotsOf rest i).map spDt) ∧ Chg NoB w0 wi
def OgRel (k : Nat) (q : List Nat) (wb : World) (ob : Nat) (rc : List Value) (n : Nat) (va vi : Value) (wr : World) : Prop :=
 ∃ (t m a : Nat) (done : List Pt) (vg : Value), vi = .int .i64 (t : Nat) ∧ va = .int .i64 (a : Nat) ∧ t ≤ q.length ∧ q.length - t = m * (1 + 2 * k) ∧ a + (q.length - t) * 200000 ≤ 4 + q.length * 200000 ∧
  done.length + (q.length - t) ≤ q.length ∧ Blk wr ob (rc ++ [vg, .int .i64 (n : Nat)]) 45 ∧ Own wr wb.heap.size 101 2 (fun b => wb.heap.size ≤ b) vg (done.map Pt.dt) ∧ Chg (OneB ob) wb wr ∧
  grpF k (q.length / (1 + 2 * k)) 4 q = (grpF k m a (q.drop t)).map (fun r => (done ++ r.1, r.2))
theorem openOf_any (l : List UInt8) (w : World) (hb : l.length ≤ 9000000000000000000) :
  Calls Tryz.prog 13 #[.string ⟨l.toArray⟩] w (RetFt errI (.int .i64 0) (openF l) w) := by
 go_enter Tryz.func13, Tryz.ntmps13
 obtain ⟨Q0, hQ0⟩ : ∃ q, q = bodyPost Tryz.prog Tryz.f13 (RetFt errI (.int .i64 0) (openF l) w) := ⟨_, rfl⟩
 rw [← hQ0]
 have HQ := Lib.hid hQ0
 clear hQ0
 go_wp2_with fail
 generalize hw1 : World.alloc _ _ = w1
 have hc1 : Chg NoB w w1 := by
  rw [← hw1]
  repeat (first | exact Chg.refl _ _ | apply Chg.alloc | apply Chg.drew)
 have hb1 : Blk w1 (w.heap.size) ([.int .i64 0, .string ⟨#[]⟩, .int .i64 0, .int .i64 0, .slice none 0 0, .slice none 0 0, .int .i64 0]) 45 := by
  rw [← hw1]
  repeat (first | exact Blk.newAt (by first | rfl | (simp; done) | (simp; omega)) | apply Blk.alloc | apply Blk.drew)
 clear hw1
 refine (footOf_any l w1 hb).mono ?_
 rintro en w2 ⟨hc2, hm2⟩
 have hb2 := hb1.keep hc2 nbE
 have hc02 := hc1.tr hc2
 cases hf : footF l with
 | bad e =>
  rw [hf] at hm2
  obtain rfl := hm2
  have hcode := foot_code hf
  have heI : (0 : Int) < (e : Int) := by omega
  have Hf := Lib.hid hf
  have Hcode := Lib.hid hcode
  clear hf hcode
  have z0 : w2.frozen? ⟨w.heap.size, 0, none⟩ = false := hb2.free 0
  have z1 : w2.frozen? ⟨w.heap.size, 1, none⟩ = false := hb2.free 1
  have z2 : w2.frozen? ⟨w.heap.size, 2, none⟩ = false := hb2.free 2
  have z3 : w2.frozen? ⟨w.heap.size, 3, none⟩ = false := hb2.free 3
  have z4 : w2.frozen? ⟨w.heap.size, 4, none⟩ = false := hb2.free 4
  have z5 : w2.frozen? ⟨w.heap.size, 5, none⟩ = false := hb2.free 5
  have z6 : w2.frozen? ⟨w.heap.size, 6, none⟩ = false := hb2.free 6
  have y0 : w2.cell? ⟨w.heap.size, 0, none⟩ = some (.int .i64 (0)) := hb2.cell 0
  have y1 : w2.cell? ⟨w.heap.size, 1, none⟩ = some (.string ⟨#[]⟩) := hb2.cell 1
  have y2 : w2.cell? ⟨w.heap.size, 2, none⟩ = some (.int .i64 (0)) := hb2.cell 2
  have y3 : w2.cell? ⟨w.heap.size, 3, none⟩ = some (.int .i64 (0)) := hb2.cell 3
  have y4 : w2.cell? ⟨w.heap.size, 4, none⟩ = some (.slice none 0 0) := hb2.cell 4
  have y5 : w2.cell? ⟨w.heap.size, 5, none⟩ = some (.slice none 0 0) := hb2.cell 5
  have y6 : w2.cell? ⟨w.heap.size, 6, none⟩ = some (.int .i64 (0)) := hb2.cell 6
  go_wp2_with fail
  rw [HQ.out]
  have hbE := store7 hb2 (.int .i64 (0)) (.string ⟨#[]⟩) (.int .i64 (0)) (.int .i64 (0)) (.slice none 0 0) (.slice none 0 0) (.int .i64 (0))
  have hsE := store7_chg w2 (w.heap.size) (.int .i64 (0)) (.string ⟨#[]⟩) (.int .i64 (0)) (.int .i64 (0)) (.slice none 0 0) (.slice none 0 0) (.int .i64 (0))
  have hcE := hc02.trans hsE (fun i e => .inr (by have e : i = w.heap.size := e; omega))
  generalize World.setCell (World.setCell (World.setCell (World.setCell (World.setCell (World.setCell (World.setCell w2 ⟨w.heap.size, 0, none⟩ (.int .i64 (0))) ⟨w.heap.size, 1, none⟩ (.string ⟨#[]⟩)) ⟨w.heap.size, 2, none⟩ (.int .i64 (0))) ⟨w.heap.size, 3, none⟩ (.int .i64 (0))) ⟨w.heap.size, 4, none⟩ (.slice none 0 0)) ⟨w.heap.size, 5, none⟩ (.slice none 0 0)) ⟨w.heap.size, 6, none⟩ (.int .i64 (0)) = wE at hbE hsE hcE ⊢
  have n0 : wE.cell? ⟨w.heap.size, 0, none⟩ = some (.int .i64 (0)) := hbE.cell 0
  have n1 : wE.cell? ⟨w.heap.size, 1, none⟩ = some (.string ⟨#[]⟩) := hbE.cell 1
  have n2 : wE.cell? ⟨w.heap.size, 2, none⟩ = some (.int .i64 (0)) := hbE.cell 2
  have n3 : wE.cell? ⟨w.heap.size, 3, none⟩ = some (.int .i64 (0)) := hbE.cell 3
  have n4 : wE.cell? ⟨w.heap.size, 4, none⟩ = some (.slice none 0 0) := hbE.cell 4
  have n5 : wE.cell? ⟨w.heap.size, 5, none⟩ = some (.slice none 0 0) := hbE.cell 5
  have n6 : wE.cell? ⟨w.heap.size, 6, none⟩ = some (.int .i64 (0)) := hbE.cell 6
  refine bodyPost_ret (v := .tuple #[zeroFt, .int .i64 (e : Nat)]) (by first | exact resOpenOf rfl rfl n0 n1 n2 n3 n4 n5 n6 | exact resOpen rfl rfl n0 n1 n2 n3 n4 n5 n6) rfl ?_
  rw [open_foot Hf.out]
  exact ⟨hcE, rfl⟩
 | ok n =>
  rw [hf] at hm2
  obtain rfl := hm2
  obtain ⟨hfle, hfl2⟩ := foot_le hf
  have hfl := ftxt_length hfle
  obtain ⟨a0, ha0⟩ : ∃ z, z = l.length - 12 - n := ⟨_, rfl⟩
  have haI : a0 + n + 12 = l.length := by omega
  rw [← ha0]
  have Hext := Lib.hid (ext_foot3 l a0 n haI)
  have Hf := Lib.hid hf
  have Hfl := Lib.hid hfl
  have Ha0 := Lib.hid ha0
  have HaI := Lib.hid haI
  have haL : (a0 : Int) + (n : Int) ≤ (l.length : Int) := by omega
  clear hf hfl ha0 haI
  go_wp2_with fail
  rw [Hext.out]
  generalize hw5 : World.alloc _ _ = w5
  have hc5 : Chg NoB w2 w5 := by
   rw [← hw5]
   repeat (first | exact Chg.refl _ _ | apply Chg.alloc | apply Chg.drew)
  have ho5 : Blk w5 (w2.heap.size) ([.int .i64 0, .string ⟨#[]⟩, .int .i64 0, .int .i64 0, .slice none 0 0, .slice none 0 0, .int .i64 (n : Nat)]) 45 := by
   rw [← hw5]
   repeat (first | exact Blk.newAt (by first | rfl | (simp; done) | (simp; omega)) | apply Blk.alloc | apply Blk.drew)
  clear hw5
  have hb5 := hb2.keep hc5 nbE
  have hc05 := hc02.tr hc5
  have hsz2 := hc02.size
  have hfb2 := hb2.lt
  clear hb1 hb2 hc1 hc2 hc5 Hext
  go_loopw [7, 9, 10, 11] (EnRel (footText l n) w5) (fun vs _ _ _ _ => strL vs)
  case atStart => exact ⟨footText l n, [], [], (footText l n).length + 1, 0, rfl, rfl, rfl, rfl, by omega, Nat.le_refl _, by omega, Nat.zero_le _, Nat.zero_le _, rfl, Chg.refl _ _⟩
  case round =>
   obtain ⟨f, t, g, m, seen, rfl, rfl, rfl, rfl, hm, hla, hseen, ht, hg, hres, hc⟩ := hrel
   rw [Hfl.out] at hres hla
   have Hres := Lib.hid hres
   clear hres
   obtain ⟨m, rfl⟩ : ∃ k, m = k + 1 := ⟨m - 1, by omega⟩
   have hbr := hb5.keep hc nbE
   have hc0r := hc05.tr hc
   by_cases hl : f = []
   ·subst hl
    have hent := ent_end (m := m) (seen := seen) (t := t) (g := g)
    by_cases h2 : seen = 2
    ·subst h2
     rw [if_pos rfl] at hent
     have He := Lib.hid (show entF (n + 1) 0 [] [] (footText l n) = some (t, g) from by rw [Hres.out, hent])
     clear hent
     go_wp2_with fail
     refine (schemaOf_short ⟨t.toArray⟩ wr (by rw [siz_list]; omega)).mono ?_
     rintro en w6 ⟨hc6, hm6⟩
     have hb6 := hbr.keep hc6 nbE
     have hc06 := hc0r.tr hc6
     have ho6 := (ho5.keep hc nbE).keep hc6 nbE
     have hsz6 := (hc.tr hc6).size
     have holt := ho5.lt
     clear hb5 hbr ho5 hm hla hseen
     cases hok : (readF ⟨t.toArray⟩).isOk with
     | false =>
      obtain ⟨c6, a6, hpos, rfl⟩ := so_no hok hm6
      --DEV{
      have Hok := Lib.hid hok
      clear hm6 hok
      go_upto_region 27 with fail
      generalize hw7 : World.alloc _ _ = w7
      have hc7 : Chg NoB w6 w7 := by
       rw [← hw7]
       repeat (first | exact Chg.refl _ _ | apply Chg.alloc | apply Chg.drew)
      have hx7 : Blk w7 (w6.heap.size + 1) ([.int .i64 c6, .int .i64 a6]) 94 := by
       rw [← hw7]
       repeat (first | exact Blk.newAt (by first | rfl | (simp; done) | (simp; omega)) | apply Blk.alloc | apply Blk.drew)
      clear hw7
      have hb7 := hb6.keep hc7 nbE
      have hc07 := hc06.tr hc7
      have x0 : w7.cell? ⟨w6.heap.size + 1, 0, none⟩ = some (.int .i64 c6) := hx7.cell 0
      have z0 : w7.frozen? ⟨w.heap.size, 0, none⟩ = false := hb7.free 0
      have z1 : w7.frozen? ⟨w.heap.size, 1, none⟩ = false := hb7.free 1
      have z2 : w7.frozen? ⟨w.heap.size, 2, none⟩ = false := hb7.free 2
      have z3 : w7.frozen? ⟨w.heap.size, 3, none⟩ = false := hb7.free 3
      have z4 : w7.frozen? ⟨w.heap.size, 4, none⟩ = false := hb7.free 4
      have z5 : w7.frozen? ⟨w.heap.size, 5, none⟩ = false := hb7.free 5
      have z6 : w7.frozen? ⟨w.heap.size, 6, none⟩ = false := hb7.free 6
      have y0 : w7.cell? ⟨w.heap.size, 0, none⟩ = some (.int .i64 (0)) := hb7.cell 0
      have y1 : w7.cell? ⟨w.heap.size, 1, none⟩ = some (.string ⟨#[]⟩) := hb7.cell 1
      have y2 : w7.cell? ⟨w.heap.size, 2, none⟩ = some (.int .i64 (0)) := hb7.cell 2
      have y3 : w7.cell? ⟨w.heap.size, 3, none⟩ = some (.int .i64 (0)) := hb7.cell 3
      have y4 : w7.cell? ⟨w.heap.size, 4, none⟩ = some (.slice none 0 0) := hb7.cell 4
      have y5 : w7.cell? ⟨w.heap.size, 5, none⟩ = some (.slice none 0 0) := hb7.cell 5
      have y6 : w7.cell? ⟨w.heap.size, 6, none⟩ = some (.int .i64 (0)) := hb7.cell 6
      go_wp2_with fail
      rw [HQ.out]
      have hbE := store7 hb7 (.int .i64 (0)) (.string ⟨#[]⟩) (.int .i64 (0)) (.int .i64 (0)) (.slice none 0 0) (.slice none 0 0) (.int .i64 (0))
      have hsE := store7_chg w7 (w.heap.size) (.int .i64 (0)) (.string ⟨#[]⟩) (.int .i64 (0)) (.int .i64 (0)) (.slice none 0 0) (.slice none 0 0) (.int .i64 (0))
      have hcE := hc07.trans hsE (fun i e => .inr (by have e : i = w.heap.size := e; omega))
      generalize World.setCell (World.setCell (World.setCell (World.setCell (World.setCell (World.setCell (World.setCell w7 ⟨w.heap.size, 0, none⟩ (.int .i64 (0))) ⟨w.heap.size, 1, none⟩ (.string ⟨#[]⟩)) ⟨w.heap.size, 2, none⟩ (.int .i64 (0))) ⟨w.heap.size, 3, none⟩ (.int .i64 (0))) ⟨w.heap.size, 4, none⟩ (.slice none 0 0)) ⟨w.heap.size, 5, none⟩ (.slice none 0 0)) ⟨w.heap.size, 6, none⟩ (.int .i64 (0)) = wE at hbE hsE hcE ⊢
      have n0 : wE.cell? ⟨w.heap.size, 0, none⟩ = some (.int .i64 (0)) := hbE.cell 0
      have n1 : wE.cell? ⟨w.heap.size, 1, none⟩ = some (.string ⟨#[]⟩) := hbE.cell 1
      have n2 : wE.cell? ⟨w.heap.size, 2, none⟩ = some (.int .i64 (0)) := hbE.cell 2
      have n3 : wE.cell? ⟨w.heap.size, 3, none⟩ = some (.int .i64 (0)) := hbE.cell 3
      have n4 : wE.cell? ⟨w.heap.size, 4, none⟩ = some (.slice none 0 0) := hbE.cell 4
      have n5 : wE.cell? ⟨w.heap.size, 5, none⟩ = some (.slice none 0 0) := hbE.cell 5
      have n6 : wE.cell? ⟨w.heap.size, 6, none⟩ = some (.int .i64 (0)) := hbE.cell 6
      refine bodyPost_ret (v := .tuple #[zeroFt, .int .i64 1]) (by first | exact resOpenOf rfl rfl n0 n1 n2 n3 n4 n5 n6 | exact resOpen rfl rfl n0 n1 n2 n3 n4 n5 n6) rfl ?_
      rw [open_read Hf.out He.out Hok.out]
      exact ⟨hcE, rfl⟩
      --DEV}
     | true =>
      cases hr : readF ⟨t.toArray⟩ with
      | er e => rw [hr] at hok; cases hok
      | bad e q => rw [hr] at hok; cases hok
      | ok root =>
       rw [hr] at hm6
       obtain ⟨cs6, rfl, hrd6⟩ := hm6
       obtain ⟨hrok, hrv⟩ := read_valid hr
       have hlk := leaves_le hrv
       have hleq := leavesRef_eq hrv
       obtain ⟨i, nm, r, k, sb⟩ := root
       have hrd6' := hrd6
       obtain ⟨sv6, rfl, hs6⟩ := reads_nd.1 hrd6'
       obtain ⟨a6, cap6, rfl, -, -, -⟩ := reads_subs hs6
       have Hr := Lib.hid hr
       have Hleq := Lib.hid hleq
       clear hr hok hleq hs6 hrd6'
       go_upto_region 29 with fail
       generalize hw7 : World.alloc _ _ = w7
       have hc7 : Chg NoB w6 w7 := by
        rw [← hw7]
        repeat (first | exact Chg.refl _ _ | apply Chg.alloc | apply Chg.drew)
       have hx7 : Blk w7 (w6.heap.size) (ndCells i nm r k (.slice a6 sb.length cap6)) 33 := by
        rw [← hw7]
        repeat (first | exact Blk.newAt (by first | rfl | (simp; done) | (simp; omega)) | apply Blk.alloc | apply Blk.drew)
       clear hw7
       have hb7 := hb6.keep hc7 nbE
       have ho7 := ho6.keep hc7 nbE
       have hc07 := hc06.tr hc7
       have x0 : w7.cell? ⟨w6.heap.size, 0, none⟩ = some (.int .i64 (i)) := hx7.cell 0
       have x1 : w7.cell? ⟨w6.heap.size, 1, none⟩ = some (.string nm) := hx7.cell 1
       have x2 : w7.cell? ⟨w6.heap.size, 2, none⟩ = some (.int .i64 (r)) := hx7.cell 2
       have x3 : w7.cell? ⟨w6.heap.size, 3, none⟩ = some (.int .i64 (k)) := hx7.cell 3
       have x4 : w7.cell? ⟨w6.heap.size, 4, none⟩ = some (.slice a6 sb.length cap6) := hx7.cell 4
       have z0 : w7.frozen? ⟨w2.heap.size, 0, none⟩ = false := ho7.free 0
       have z1 : w7.frozen? ⟨w2.heap.size, 1, none⟩ = false := ho7.free 1
       have z2 : w7.frozen? ⟨w2.heap.size, 2, none⟩ = false := ho7.free 2
       have z3 : w7.frozen? ⟨w2.heap.size, 3, none⟩ = false := ho7.free 3
       have z4 : w7.frozen? ⟨w2.heap.size, 4, none⟩ = false := ho7.free 4
       have z5 : w7.frozen? ⟨w2.heap.size, 5, none⟩ = false := ho7.free 5
       have z6 : w7.frozen? ⟨w2.heap.size, 6, none⟩ = false := ho7.free 6
       have y0 : w7.cell? ⟨w2.heap.size, 0, none⟩ = some (.int .i64 (0)) := ho7.cell 0
       have y1 : w7.cell? ⟨w2.heap.size, 1, none⟩ = some (.string ⟨#[]⟩) := ho7.cell 1
       have y2 : w7.cell? ⟨w2.heap.size, 2, none⟩ = some (.int .i64 (0)) := ho7.cell 2
       have y3 : w7.cell? ⟨w2.heap.size, 3, none⟩ = some (.int .i64 (0)) := ho7.cell 3
       have y4 : w7.cell? ⟨w2.heap.size, 4, none⟩ = some (.slice none 0 0) := ho7.cell 4
       have y5 : w7.cell? ⟨w2.heap.size, 5, none⟩ = some (.slice none 0 0) := ho7.cell 5
       have y6 : w7.cell? ⟨w2.heap.size, 6, none⟩ = some (.int .i64 ((n : Nat))) := ho7.cell 6
       have hneq : w2.heap.size ≠ w6.heap.size := by omega
       go_wp2_with fail
       have hs8 := store5_chg w7 w2.heap.size (.int .i64 i) (.string nm) (.int .i64 r) (.int .i64 k) (.slice a6 sb.length cap6)
       have ho8 := ((((ho7.set 0 (.int .i64 i)).set 1 (.string nm)).set 2 (.int .i64 r)).set 3 (.int .i64 k)).set 4 (.slice a6 sb.length cap6)
       generalize World.setCell (World.setCell (World.setCell (World.setCell (World.setCell w7 ⟨w2.heap.size, 0, none⟩ (.int .i64 i)) ⟨w2.heap.size, 1, none⟩ (.string nm)) ⟨w2.heap.size, 2, none⟩ (.int .i64 r)) ⟨w2.heap.size, 3, none⟩ (.int .i64 k)) ⟨w2.heap.size, 4, none⟩ (.slice a6 sb.length cap6) = w8 at hs8 ho8 ⊢
       have hfb := hb7.lt
       have hb2l : w.heap.size < w2.heap.size := hfb2
       have hb8 := hb7.keep hs8 (fun e => by have e : w.heap.size = w2.heap.size := e; omega)
       have hc08 := hc07.trans hs8 (fun z e => .inr (by have e : z = w2.heap.size := e; omega))
       have hrd8 := (hrd6.lt.chg0 hc7).chg hs8 (fun z h e => by have e : z = w2.heap.size := e; have := h.1; have := hc.size; omega)
       have hobs : w2.heap.size < w8.heap.size := ho8.lt
       refine (leavesOf_any (.mk i nm r k sb) w8 _ _ hrv hrd8 hrok).mono ?_
       rintro en w9 ⟨a9, c9, rfl, -, hc9⟩
       rw [List.length_map, Hleq.out]
       obtain ⟨kl, hkl⟩ : ∃ z, z = (leavesOf (.mk i nm r k sb)).length := ⟨_, rfl⟩
       rw [← hkl] at hlk ⊢
       have Hkl := Lib.hid hkl
       have hb9 := hb8.keep hc9 nbE
       have ho9 := ho8.keep hc9 nbE
       have hc09 := hc08.tr hc9
       have hrd9 := hrd8.chg0 hc9
       have hob9 : w2.heap.size < w9.heap.size := ho9.lt
       obtain ⟨wA, hwA⟩ : ∃ z, z = wr := ⟨_, rfl⟩
       subst hwA
       clear hkl hs8 hc7 hc07 hc6 hc06 hc08 hb6 hb7 hb8 ho6 ho7 ho8 hx7 x0 x1 x2 x3 x4 z0 z1 z2 z3 z4 z5 z6 y0 y1 y2 y3 y4 y5 y6 hrd6 hrd8 hrv hneq hobs hc9
       go_wp2_with fail
       go_loopw [10, 19] (NmRel g w9) (fun vs _ _ => strL vs)
       case atStart => exact ⟨g, g.length + 1, [], rfl, by omega, by simp, by simp, Own.nil _ _ _ _ _, Chg.refl _ _⟩
       case round =>
        obtain ⟨g1, m, acc, rfl, hm, hga, hres, hown, hcg⟩ := hrel
        have Hgres := Lib.hid hres
        clear hres
        obtain ⟨m, rfl⟩ : ∃ k, m = k + 1 := ⟨m - 1, by omega⟩
        have hbr := hb9.keep hcg nbE
        have hc0r := hc09.tr hcg
        by_cases hgl : g1 = []
        ·subst hgl
         obtain ⟨ao, cap, hform⟩ := hown.form
         subst hform
         have hqs := Lib.hid (show numsF (g.length + 1) g = some acc from by rw [Hgres.out, nums_end]; simp)
         have hqle := Lib.hid (nums_le _ _ _ hqs.out).2
         have hal : (acc.map natDt).length = acc.length := List.length_map ..
         rw [hal] at hown ⊢
         obtain ⟨A9, c9', hform9, hl1, hl3, hls⟩ := LsAt.ofS (hown.reads (S' := fun b => w9.heap.size ≤ b) (fun _ h => h.elim) (fun b h _ => h) (by rw [hal]; simp [maxLen]; omega))
         obtain ⟨rfl, _, rfl⟩ := Value.slice.inj hform9
         have hkmod : (((acc.length : Int) % (1 + 2 * (kl : Int)))) = ((acc.length % (1 + 2 * kl) : Nat) : Int) := by simp
         by_cases hmod : acc.length % (1 + 2 * kl) = 0
         ·have hmod' : (((acc.length : Int) % (1 + 2 * (kl : Int))) != 0) = false := by rw [hkmod, hmod]; rfl
          have Hmod := Lib.hid hmod
          clear hmod hkmod hal
          go_wp2_with fail
          have hob := ho9.keep hcg nbE
          obtain ⟨wb, hwb⟩ : ∃ z, z = wr := ⟨_, rfl⟩
          subst hwb
          have hszb := hcg.size
          have hobl : w2.heap.size < wb.heap.size := hob.lt
          have hrdb := hrd9.chg0 hcg
          have hc05wA := hc.size
          have hc0b := hc0r
          have Hls := Lib.hid hls
          have haccN : acc.length ≤ 200000 := by have := hga; simp only [List.length_nil] at this; omega
          clear hmod' hown hcg hc0r hc hls hb9 ho9 hc09 hrd9 hm hga ht hg hfb hc05 hc02
          go_loopw [23, 24] (OgRel kl acc wb w2.heap.size [.int .i64 i, .string nm, .int .i64 r, .int .i64 k, .slice a6 sb.length cap6] n) (fun _ vi _ => acc.length - (intOf vi).toNat)
          case atStart =>
           exact ⟨0, acc.length / (1 + 2 * kl), 4, [], _, rfl, rfl, Nat.zero_le _, by have := Nat.div_add_mod acc.length (1 + 2 * kl); rw [Hmod.out, Nat.add_zero, Nat.mul_comm] at this; exact this.symm, Nat.le_refl _, by simp, hob, Own.nil _ _ _ _ _, Chg.refl _ _, by simp⟩
          case round =>
           obtain ⟨tt, m3, a, done, vg, rfl, rfl, htl, hmk, hab, hdq, hobr, hown3, hc3, hres3⟩ := hrel
           obtain ⟨ga, gc, hgf⟩ := hown3.form
           have hdl : (done.map Pt.dt).length = done.length := List.length_map ..
           rw [hdl] at hgf
           subst hgf
           replace hobr : Blk wr w2.heap.size [.int .i64 i, .string nm, .int .i64 r, .int .i64 k, .slice a6 sb.length cap6, .slice ga done.length gc, .int .i64 (n : Nat)] 45 := hobr
           have Hres3 := Lib.hid hres3
           have Hmk := Lib.hid hmk
           have Hdl := Lib.hid hdl
           clear hres3 hmk hdl
           by_cases htq : tt < acc.length
           ·have htqI : (tt : Int) < (acc.length : Int) := by omega
            have hm1 : 1 ≤ m3 := by
             rcases Nat.eq_zero_or_pos m3 with h0 | h0
             ·subst h0; have := Hmk.out; omega
             ·exact h0
            have hlen1 : 1 + 2 * kl ≤ acc.length - tt := by
             rw [Hmk.out]; exact Nat.le_mul_of_pos_left _ hm1
            have hqne : acc ≠ [] := fun e => by rw [e] at htq; exact Nat.not_lt_zero _ htq
            obtain ⟨nb, off, hao, hnb9, hnb, hcell⟩ := Hls.out hqne
            subst hao
            have Hcell := Lib.hid (show ∀ j x, acc[j]? = some x → wr.cell? ⟨nb, off + j, none⟩ = some (.int .i64 (x : Nat)) from fun j x hj => (hc3.cell (p := ⟨nb, off + j, none⟩) hnb (fun e => by have e : nb = w2.heap.size := e; omega)).trans (hcell j x hj))
            have hnbr : nb < wr.heap.size := Nat.lt_of_lt_of_le hnb hc3.size
            obtain ⟨x0, hx0⟩ : ∃ x, acc[tt]? = some x := ⟨_, List.getElem?_eq_getElem htq⟩
            have c0 : wr.cell? ⟨nb, off + tt, none⟩ = some (.int .i64 (x0 : Nat)) := Hcell.out tt x0 hx0
            have Hx0 := Lib.hid hx0
            have Hqne := Lib.hid hqne
            clear hcell hx0 hqne
            go_wp2_with fail
            obtain ⟨wo, hwo⟩ : ∃ z, z = wr := ⟨_, rfl⟩
            subst hwo
            generalize hw4 : World.alloc _ _ = w4
            have hc4 : Chg NoB wo w4 := by
             rw [← hw4]
             repeat (first | exact Chg.refl _ _ | apply Chg.alloc | apply Chg.drew)
            have hb4 : Blk w4 (wo.heap.size) ([.int .i64 (x0 : Nat), .slice none 0 0]) 101 := by
             rw [← hw4]
             repeat (first | exact Blk.newAt (by first | rfl | (simp; done) | (simp; omega)) | apply Blk.alloc | apply Blk.drew)
            clear hw4 c0
            obtain ⟨rest, hrestE⟩ : ∃ z, z = acc.drop tt := ⟨_, rfl⟩
            have hrl : rest.length = acc.length - tt := by rw [hrestE, List.length_drop]
            have Hat := Lib.hid (show ∀ j x, rest[j]? = some x → wo.cell? ⟨nb, off + (tt + j), none⟩ = some (.int .i64 (x : Nat)) from fun j x hj => Hcell.out (tt + j) x (by rw [hrestE, List.getElem?_drop] at hj; exact hj))
            have hrb : ∀ x ∈ rest, x ≤ 200000 := fun x hx => hqle.out x (by rw [hrestE] at hx; exact List.mem_of_mem_drop hx)
            have Hrest := Lib.hid hrestE
            have Hrb := Lib.hid hrb
            have Hrl := Lib.hid hrl
            clear hrestE hrb hrl
            go_loopw [26, 23] (PiRelR kl rest a x0 wo) (fun vi _ _ => kl - (intOf vi).toNat)
            case atStart => exact ⟨0, _, Nat.zero_le _, rfl, rfl, rfl, hb4, Own.nil _ _ _ _ _, hc4⟩
            case round =>
             obtain ⟨ii, vch, hi, rfl, rfl, hok, hpb, hch, hci⟩ := hrel
             obtain ⟨pa, pc, hform⟩ := hch.form
             subst hform
             have hsl : ((spotsOf rest ii).map spDt).length = ii := by simp [spotsOf]
             rw [hsl] at hpb hch
             have Hsl := Lib.hid hsl
             clear hsl
             by_cases hik : ii < kl
             ·have hikI : (ii : Int) < (kl : Int) := by omega
              --DEV{
              have hrlN := Hrl.out
              have hx1 := Hat.out (1 + 2 * ii) (rest.getD (1 + 2 * ii) 0) (by rw [List.getD_eq_getElem?_getD, List.getElem?_eq_getElem (by omega)]; rfl)
              have hx2 := Hat.out (2 + 2 * ii) (rest.getD (2 + 2 * ii) 0) (by rw [List.getD_eq_getElem?_getD, List.getElem?_eq_getElem (by omega)]; rfl)
              have hbd1 : rest.getD (1 + 2 * ii) 0 ≤ 200000 := by
               rw [List.getD_eq_getElem?_getD, List.getElem?_eq_getElem (by omega)]; exact Hrb.out _ (List.getElem_mem _)
              have hbd2 : rest.getD (2 + 2 * ii) 0 ≤ 200000 := by
               rw [List.getD_eq_getElem?_getD, List.getElem?_eq_getElem (by omega)]; exact Hrb.out _ (List.getElem_mem _)
              rw [← Nat.add_assoc tt] at hx1 hx2
              have d1 := (hci.cell (p := ⟨nb, off + (tt + 1 + 2 * ii), none⟩) hnbr nbE).trans hx1
              have d2 := (hci.cell (p := ⟨nb, off + (tt + 2 + 2 * ii), none⟩) hnbr nbE).trans hx2
              have hab2 := spotAt_bd Hrb.out a ii
              have hstep1 : spotAt rest a (ii + 1) = spotAt rest a ii + rest.getD (2 + 2 * ii) 0 := rfl
              obtain ⟨at1, hat1⟩ : ∃ z, z = spotAt rest a ii := ⟨_, rfl⟩
              obtain ⟨x1, hxx1⟩ : ∃ z, z = rest.getD (1 + 2 * ii) 0 := ⟨_, rfl⟩
              obtain ⟨x2, hxx2⟩ : ∃ z, z = rest.getD (2 + 2 * ii) 0 := ⟨_, rfl⟩
              rw [← hxx1] at d1 hbd1
              rw [← hxx2] at d2 hbd2 hstep1
              rw [← hat1] at hab2 hstep1 ⊢
              have Hat1 := Lib.hid hat1
              have Hxx1 := Lib.hid hxx1
              have Hxx2 := Lib.hid hxx2
              have Hstep := Lib.hid hstep1
              have hib : ii * 200000 ≤ (acc.length - tt) * 200000 := Nat.mul_le_mul_right _ (by omega)
              have hnbi : nb < wr.heap.size := Nat.lt_of_lt_of_le hnbr hci.size
              clear hat1 hxx1 hxx2 hstep1 hx1 hx2 hrlN
              go_wp2_with fail
              try go_big_unhide
              rw [HQ.out]
              refine wp_region_n (fun w' => w'.cell? ⟨nb, off + (tt + 1 + 2 * ii), none⟩ = some (.int .i64 (x1 : Nat)) ∧ w'.cell? ⟨nb, off + (tt + 2 + 2 * ii), none⟩ = some (.int .i64 (x2 : Nat))) [18] (by kernel_rfl) ?_ (fun hSh => ?_)
              ·exact ⟨d1, d2⟩
              have u1 : (0 : Int) ≤ (tt : Int) + 1 + 2 * (ii : Int) := by omega
              have u2 : (tt : Int) + 1 + 2 * (ii : Int) < (acc.length : Int) := by omega
              have u3 : (0 : Int) ≤ (tt : Int) + 2 + 2 * (ii : Int) := by omega
              have u4 : (tt : Int) + 2 + 2 * (ii : Int) < (acc.length : Int) := by omega
              have u5 : ((tt : Int) + 1 + 2 * (ii : Int)).toNat = tt + 1 + 2 * ii := by omega
              have u6 : ((tt : Int) + 2 + 2 * (ii : Int)).toNat = tt + 2 + 2 * ii := by omega
              have u7 : IntKind.i64.wrap (2 * (ii : Int)) = 2 * (ii : Int) := IntWalk.i64_in _ (by omega)
              have u8 : IntKind.i64.wrap ((tt : Int) + 1) = (tt : Int) + 1 := IntWalk.i64_in _ (by omega)
              have u9 : IntKind.i64.wrap ((tt : Int) + 2) = (tt : Int) + 2 := IntWalk.i64_in _ (by omega)
              have u10 : IntKind.i64.wrap ((tt : Int) + 1 + 2 * (ii : Int)) = (tt : Int) + 1 + 2 * (ii : Int) := IntWalk.i64_in _ (by omega)
              have u11 : IntKind.i64.wrap ((tt : Int) + 2 + 2 * (ii : Int)) = (tt : Int) + 2 + 2 * (ii : Int) := IntWalk.i64_in _ (by omega)
              refine n_from 0 ?_
              intro htk
              iterate 17
               refine n_tB (v := ?_) htk rfl (Or.inl ⟨by rfl, ?_⟩) ?_
               rotate_left 1
               ·(intro w' hSw; (try dsimp only at hSw); go_simp; try with_reducible rfl)
               clear htk
               intro htk
               simp only [Nat.reduceAdd] at htk
               simp only [Act.put, qA, qB, qC, qD, qE, qF]
              clear htk
              clear u5 u6 u7 u8 u9 u10 u11
              refine n_step 17 rfl (by kernel_rfl) ?_
              go_wp2_with fail
              generalize hw4 : World.drew (World.alloc _ _) = w4'
              have hc4' : Chg NoB wr w4' := by
               rw [← hw4]
               repeat (first | exact Chg.refl _ _ | apply Chg.alloc | apply Chg.drew)
              have hb4' : Blk w4' (wr.heap.size) ([.int .i64 0, .int .i64 0]) 103 := by
               rw [← hw4]
               repeat (first | exact Blk.newAt (by first | rfl | (simp; done) | (simp; omega)) | apply Blk.alloc | apply Blk.drew)
              clear hw4
              refine ⟨fun _ => ⟨(hc4'.cell (p := ⟨nb, off + (tt + 1 + 2 * ii), none⟩) hnbi nbE).trans d1, (hc4'.cell (p := ⟨nb, off + (tt + 2 + 2 * ii), none⟩) hnbi nbE).trans d2⟩, fun hSk => ?_⟩
              replace hSk := hSk (by rfl)
              refine n_step 18 rfl (by kernel_rfl) ?_
              have z0 : w4'.cell? ⟨wr.heap.size, 0, none⟩ = some (.int .i64 0) := hb4'.cell 0
              have z1 : w4'.cell? ⟨wr.heap.size, 1, none⟩ = some (.int .i64 0) := hb4'.cell 1
              have y0 : w4'.frozen? ⟨wr.heap.size, 0, none⟩ = false := hb4'.free 0
              have y1 : w4'.frozen? ⟨wr.heap.size, 1, none⟩ = false := hb4'.free 1
              go_wp2_with fail
              refine ⟨fun hx => absurd hx (by decide), fun _ => ?_⟩
              refine n_done (by kernel_rfl) ?_
              try go_big_unhide
              rw [← HQ.out]
              have hb5 := (hb4'.set 0 (.int .i64 (x1 : Nat))).set 1 (.int .i64 (x2 : Nat))
              have hc5 : Chg (OneB wr.heap.size) w4' ((w4'.setCell ⟨wr.heap.size, 0, none⟩ (.int .i64 (x1 : Nat))).setCell ⟨wr.heap.size, 1, none⟩ (.int .i64 (x2 : Nat))) := ((Chg.refl (OneB wr.heap.size) w4').setCell (p := ⟨wr.heap.size, 0, none⟩) (.inl rfl) _).setCell (p := ⟨wr.heap.size, 1, none⟩) (.inl rfl) _
              generalize World.setCell (World.setCell w4' ⟨wr.heap.size, 0, none⟩ (.int .i64 (x1 : Nat))) ⟨wr.heap.size, 1, none⟩ (.int .i64 (x2 : Nat)) = w5' at hb5 hc5 ⊢
              have hcr5 : Chg NoB wr w5' := hc4'.trans hc5 (fun z e => .inr (by have e : z = wr.heap.size := e; omega))
              have e0 : w5'.cell? ⟨wr.heap.size, 0, none⟩ = some (.int .i64 (x1 : Nat)) := hb5.cell 0
              have e1 : w5'.cell? ⟨wr.heap.size, 1, none⟩ = some (.int .i64 (x2 : Nat)) := hb5.cell 1
              clear z0 z1 y0 y1 hSk d1 d2 u1 u2 u3 u4
              by_cases hxa : x1 = at1
              ·subst hxa
               have hp5 := hpb.keep hcr5 nbE
               have p0 : w5'.cell? ⟨wo.heap.size, 0, none⟩ = some (.int .i64 (x0 : Nat)) := hp5.cell 0
               have p1 : w5'.cell? ⟨wo.heap.size, 1, none⟩ = some (.slice pa ii pc) := hp5.cell 1
               have q1 : w5'.frozen? ⟨wo.heap.size, 1, none⟩ = false := hp5.free 1
               have hib2 : (x1 : Int) + (x2 : Int) ≤ 9000000000000000000 := by omega
               go_wp2_with (at_builtin; refine stop_here ?_)
               refine Stop.go ?_
               generalize hw6 : World.alloc _ _ = w6'
               have hc6 : Chg NoB w5' w6' := by
                rw [← hw6]
                repeat (first | exact Chg.refl _ _ | apply Chg.alloc | apply Chg.drew)
               have hb6 : Blk w6' (w5'.heap.size) ([.int .i64 (x1 : Nat), .int .i64 (x2 : Nat)]) 103 := by
                rw [← hw6]
                repeat (first | exact Blk.newAt (by first | rfl | (simp; done) | (simp; omega)) | apply Blk.alloc | apply Blk.drew)
               clear hw6
               have hcr6 := hcr5.tr hc6
               have ho6 := hch.keep hcr6 (fun _ h => h.elim) (fun _ _ => nbE)
               have hz0 := hci.size
               have hz6 := hcr6.size
               have hpl := hpb.lt
               refine wpList_own rfl (.tmp 181) (.tmp 183) 99 rfl (wo.heap.size + 1) 103 Tryz.underlying99 infoSpotR rfl (by decide) rfl ho6 rfl [spDt (x1, x2)] [.int .i64 (x1 : Nat), .int .i64 (x2 : Nat)] rfl (ReadsC.single rfl (reads_sp _ _ _ _)) hb6.news (fun e => by cases e) ?_ ?_ ?_ ?_
               ·rw [Hsl.out]; simp [maxLen]; omega
               ·rw [Hsl.out]; omega
               ·omega
               intro ao7 cap7 w7' ho7 hc7 _
               rw [Hsl.out] at ho7 ⊢
               have hne7 : ∀ z, (Value.slice pa ii pc).ownBlock = some z → wo.heap.size + 1 ≤ z := fun z hz => (hch.block z hz).1
               have hp7 := (hp5.keep hc6 nbE).keep hc7 (fun e => by have := hne7 _ e; omega)
               have p7 : w7'.cell? ⟨wo.heap.size, 1, none⟩ = some (.slice pa ii pc) := hp7.cell 1
               have q7 : w7'.frozen? ⟨wo.heap.size, 1, none⟩ = false := hp7.free 1
               have Hne7 := Lib.hid hne7
               clear p0 p1 q1 e0 e1 hne7
               go_wp2_with fail
               go_roundw
               case rel =>
                have hb8 := hp7.set 1 (.slice ao7 (ii + 1) cap7)
                have hc8 : Chg (OneB wo.heap.size) w7' (w7'.setCell ⟨wo.heap.size, 1, none⟩ (.slice ao7 (ii + 1) cap7)) := (Chg.refl (OneB wo.heap.size) w7').setCell (p := ⟨wo.heap.size, 1, none⟩) (.inl rfl) _
                refine ⟨ii + 1, .slice ao7 (ii + 1) cap7, by omega, by go_num, by rw [Hstep.out]; go_num, ?_, hb8, ?_, ?_⟩
                ·simp only [spotOk, hok, ← Hxx1.out, ← Hat1.out, Bool.true_and, decide_true]
                ·rw [spots_succ, List.map_append, ← Hxx1.out, ← Hxx2.out]
                 exact ho7.keep hc8 (fun _ h => h.elim) (fun z hz e => by have := (ho7.block z hz).1; have e : z = wo.heap.size := e; omega)
                ·exact ((hci.tr hcr6).trans hc7 (fun z e => .inr (by have := Hne7.out z e; omega))).trans hc8 (fun z e => .inr (Nat.le_of_eq (Eq.symm e)))
               case measure => simp [intOf]; omega
              ·have hxa' : ((x1 : Int) != (at1 : Int)) = true := by rw [bne_iff_ne]; omega
               have Hxa := Lib.hid hxa
               clear hxa
               have hcx := (hci.tr hcr5)
               have hby := ((hbr.keep hc3 (fun e => by have e : w.heap.size = w2.heap.size := e; omega)).keep hcx nbE)
               have hc0y := (hc0b.trans hc3 (fun z e => .inr (by have e : z = w2.heap.size := e; omega))).tr hcx
               have z0 : w5'.frozen? ⟨w.heap.size, 0, none⟩ = false := hby.free 0
               have z1 : w5'.frozen? ⟨w.heap.size, 1, none⟩ = false := hby.free 1
               have z2 : w5'.frozen? ⟨w.heap.size, 2, none⟩ = false := hby.free 2
               have z3 : w5'.frozen? ⟨w.heap.size, 3, none⟩ = false := hby.free 3
               have z4 : w5'.frozen? ⟨w.heap.size, 4, none⟩ = false := hby.free 4
               have z5 : w5'.frozen? ⟨w.heap.size, 5, none⟩ = false := hby.free 5
               have z6 : w5'.frozen? ⟨w.heap.size, 6, none⟩ = false := hby.free 6
               have y0 : w5'.cell? ⟨w.heap.size, 0, none⟩ = some (.int .i64 (0)) := hby.cell 0
               have y1 : w5'.cell? ⟨w.heap.size, 1, none⟩ = some (.string ⟨#[]⟩) := hby.cell 1
               have y2 : w5'.cell? ⟨w.heap.size, 2, none⟩ = some (.int .i64 (0)) := hby.cell 2
               have y3 : w5'.cell? ⟨w.heap.size, 3, none⟩ = some (.int .i64 (0)) := hby.cell 3
               have y4 : w5'.cell? ⟨w.heap.size, 4, none⟩ = some (.slice none 0 0) := hby.cell 4
               have y5 : w5'.cell? ⟨w.heap.size, 5, none⟩ = some (.slice none 0 0) := hby.cell 5
               have y6 : w5'.cell? ⟨w.heap.size, 6, none⟩ = some (.int .i64 (0)) := hby.cell 6
               go_wp2_with fail
               rw [HQ.out]
               have hbE := store7 hby (.int .i64 (0)) (.string ⟨#[]⟩) (.int .i64 (0)) (.int .i64 (0)) (.slice none 0 0) (.slice none 0 0) (.int .i64 (0))
               have hsE := store7_chg w5' (w.heap.size) (.int .i64 (0)) (.string ⟨#[]⟩) (.int .i64 (0)) (.int .i64 (0)) (.slice none 0 0) (.slice none 0 0) (.int .i64 (0))
               have hcE := hc0y.trans hsE (fun i e => .inr (by have e : i = w.heap.size := e; omega))
               generalize World.setCell (World.setCell (World.setCell (World.setCell (World.setCell (World.setCell (World.setCell w5' ⟨w.heap.size, 0, none⟩ (.int .i64 (0))) ⟨w.heap.size, 1, none⟩ (.string ⟨#[]⟩)) ⟨w.heap.size, 2, none⟩ (.int .i64 (0))) ⟨w.heap.size, 3, none⟩ (.int .i64 (0))) ⟨w.heap.size, 4, none⟩ (.slice none 0 0)) ⟨w.heap.size, 5, none⟩ (.slice none 0 0)) ⟨w.heap.size, 6, none⟩ (.int .i64 (0)) = wE at hbE hsE hcE ⊢
               have n0 : wE.cell? ⟨w.heap.size, 0, none⟩ = some (.int .i64 (0)) := hbE.cell 0
               have n1 : wE.cell? ⟨w.heap.size, 1, none⟩ = some (.string ⟨#[]⟩) := hbE.cell 1
               have n2 : wE.cell? ⟨w.heap.size, 2, none⟩ = some (.int .i64 (0)) := hbE.cell 2
               have n3 : wE.cell? ⟨w.heap.size, 3, none⟩ = some (.int .i64 (0)) := hbE.cell 3
               have n4 : wE.cell? ⟨w.heap.size, 4, none⟩ = some (.slice none 0 0) := hbE.cell 4
               have n5 : wE.cell? ⟨w.heap.size, 5, none⟩ = some (.slice none 0 0) := hbE.cell 5
               have n6 : wE.cell? ⟨w.heap.size, 6, none⟩ = some (.int .i64 (0)) := hbE.cell 6
               refine bodyPost_ret (v := .tuple #[zeroFt, .int .i64 1]) (by first | exact resOpenOf rfl rfl n0 n1 n2 n3 n4 n5 n6 | exact resOpen rfl rfl n0 n1 n2 n3 n4 n5 n6) rfl ?_
               obtain ⟨m', rfl⟩ : ∃ z, m3 = z + 1 := ⟨m3 - 1, by omega⟩
               rw [open_part Hf.out He.out Hr.out (by rw [← Hkl.out, ← Ha0.out, part_grp hqs.out Hmod.out, Hres3.out, ← Hrest.out, grp_bad (.inl (spotOk_miss hik (by rw [← Hxx1.out, ← Hat1.out]; exact Hxa.out)))]; rfl)]
               exact ⟨hcE, rfl⟩
              --DEV}
             ·have hikI : ¬ (ii : Int) < (kl : Int) := by omega
              have hiik : ii = kl := by omega
              rw [hiik] at hpb hch hok ⊢
              have Hsl2 := Lib.hid (show ((spotsOf rest kl).map spDt).length = kl from by simp [spotsOf])
              have p0 : wr.cell? ⟨wo.heap.size, 0, none⟩ = some (.int .i64 (x0 : Nat)) := hpb.cell 0
              have p1 : wr.cell? ⟨wo.heap.size, 1, none⟩ = some (.slice pa kl pc) := hpb.cell 1
              have hg0 : rest.getD 0 0 = x0 := by rw [List.getD_eq_getElem?_getD, Hrest.out, List.getElem?_drop, Nat.add_zero, Hx0.out]; rfl
              have hab2 := spotAt_bd Hrb.out a kl
              have hib : kl * 200000 ≤ (acc.length - tt) * 200000 := Nat.mul_le_mul_right _ (by omega)
              obtain ⟨at1, hat1⟩ : ∃ z, z = spotAt rest a kl := ⟨_, rfl⟩
              rw [← hat1] at hab2 ⊢
              have Hat1 := Lib.hid hat1
              have Hg0 := Lib.hid hg0
              obtain ⟨m', hm'⟩ : ∃ z, m3 = z + 1 := ⟨m3 - 1, by omega⟩
              subst hm'
              clear hat1 hg0 Hsl hi hiik hikI hik
              by_cases hx00 : x0 = 0
              ·have hx0' : ((x0 : Int) == 0) = true := by simp [hx00]
               have Hx00 := Lib.hid hx00
               clear hx00
               have hby := ((hbr.keep hc3 (fun e => by have e : w.heap.size = w2.heap.size := e; omega)).keep hci nbE)
               have hc0y := (hc0b.trans hc3 (fun z e => .inr (by have e : z = w2.heap.size := e; omega))).tr hci
               have z0 : wr.frozen? ⟨w.heap.size, 0, none⟩ = false := hby.free 0
               have z1 : wr.frozen? ⟨w.heap.size, 1, none⟩ = false := hby.free 1
               have z2 : wr.frozen? ⟨w.heap.size, 2, none⟩ = false := hby.free 2
               have z3 : wr.frozen? ⟨w.heap.size, 3, none⟩ = false := hby.free 3
               have z4 : wr.frozen? ⟨w.heap.size, 4, none⟩ = false := hby.free 4
               have z5 : wr.frozen? ⟨w.heap.size, 5, none⟩ = false := hby.free 5
               have z6 : wr.frozen? ⟨w.heap.size, 6, none⟩ = false := hby.free 6
               have y0 : wr.cell? ⟨w.heap.size, 0, none⟩ = some (.int .i64 (0)) := hby.cell 0
               have y1 : wr.cell? ⟨w.heap.size, 1, none⟩ = some (.string ⟨#[]⟩) := hby.cell 1
               have y2 : wr.cell? ⟨w.heap.size, 2, none⟩ = some (.int .i64 (0)) := hby.cell 2
               have y3 : wr.cell? ⟨w.heap.size, 3, none⟩ = some (.int .i64 (0)) := hby.cell 3
               have y4 : wr.cell? ⟨w.heap.size, 4, none⟩ = some (.slice none 0 0) := hby.cell 4
               have y5 : wr.cell? ⟨w.heap.size, 5, none⟩ = some (.slice none 0 0) := hby.cell 5
               have y6 : wr.cell? ⟨w.heap.size, 6, none⟩ = some (.int .i64 (0)) := hby.cell 6
               go_wp2_with fail
               rw [HQ.out]
               have hbE := store7 hby (.int .i64 (0)) (.string ⟨#[]⟩) (.int .i64 (0)) (.int .i64 (0)) (.slice none 0 0) (.slice none 0 0) (.int .i64 (0))
               have hsE := store7_chg wr (w.heap.size) (.int .i64 (0)) (.string ⟨#[]⟩) (.int .i64 (0)) (.int .i64 (0)) (.slice none 0 0) (.slice none 0 0) (.int .i64 (0))
               have hcE := hc0y.trans hsE (fun i e => .inr (by have e : i = w.heap.size := e; omega))
               generalize World.setCell (World.setCell (World.setCell (World.setCell (World.setCell (World.setCell (World.setCell wr ⟨w.heap.size, 0, none⟩ (.int .i64 (0))) ⟨w.heap.size, 1, none⟩ (.string ⟨#[]⟩)) ⟨w.heap.size, 2, none⟩ (.int .i64 (0))) ⟨w.heap.size, 3, none⟩ (.int .i64 (0))) ⟨w.heap.size, 4, none⟩ (.slice none 0 0)) ⟨w.heap.size, 5, none⟩ (.slice none 0 0)) ⟨w.heap.size, 6, none⟩ (.int .i64 (0)) = wE at hbE hsE hcE ⊢
               have n0 : wE.cell? ⟨w.heap.size, 0, none⟩ = some (.int .i64 (0)) := hbE.cell 0
               have n1 : wE.cell? ⟨w.heap.size, 1, none⟩ = some (.string ⟨#[]⟩) := hbE.cell 1
               have n2 : wE.cell? ⟨w.heap.size, 2, none⟩ = some (.int .i64 (0)) := hbE.cell 2
               have n3 : wE.cell? ⟨w.heap.size, 3, none⟩ = some (.int .i64 (0)) := hbE.cell 3
               have n4 : wE.cell? ⟨w.heap.size, 4, none⟩ = some (.slice none 0 0) := hbE.cell 4
               have n5 : wE.cell? ⟨w.heap.size, 5, none⟩ = some (.slice none 0 0) := hbE.cell 5
               have n6 : wE.cell? ⟨w.heap.size, 6, none⟩ = some (.int .i64 (0)) := hbE.cell 6
               refine bodyPost_ret (v := .tuple #[zeroFt, .int .i64 1]) (by first | exact resOpenOf rfl rfl n0 n1 n2 n3 n4 n5 n6 | exact resOpen rfl rfl n0 n1 n2 n3 n4 n5 n6) rfl ?_
               rw [open_part Hf.out He.out Hr.out (by rw [← Hkl.out, ← Ha0.out, part_grp hqs.out Hmod.out, Hres3.out, ← Hrest.out, grp_bad (.inr (by rw [Hg0.out]; exact Hx00.out))]; rfl)]
               exact ⟨hcE, rfl⟩
              ·have hx0' : ((x0 : Int) == 0) = false := by simpa using hx00
               have Hx00 := Lib.hid hx00
               have hobI := hobr.keep hci nbE
               have o5 : wr.cell? ⟨w2.heap.size, 5, none⟩ = some (.slice ga done.length gc) := hobI.cell 5
               have hobneq : w2.heap.size ≠ wo.heap.size := by have := hobr.lt; omega
               clear hx00
               go_wp2_with (at_builtin; refine stop_here ?_)
               refine Stop.go ?_
               generalize hw6 : World.alloc _ _ = w6'
               have hc6 : Chg NoB wr w6' := by
                rw [← hw6]
                repeat (first | exact Chg.refl _ _ | apply Chg.alloc | apply Chg.drew)
               have hb6 : Blk w6' (wr.heap.size) ([.int .i64 (x0 : Nat), .slice pa kl pc]) 101 := by
                rw [← hw6]
                repeat (first | exact Blk.newAt (by first | rfl | (simp; done) | (simp; omega)) | apply Blk.alloc | apply Blk.drew)
               clear hw6 p0 p1 o5
               have hz0 := hci.size
               have hz6 := hc6.size
               have hz3 := hc3.size
               have hcr6 := hci.tr hc6
               have ho6 := hown3.inHeap.keep hcr6 (fun _ _ => nbE) (fun _ _ => nbE)
               have hch6 := hch.keep hc6 (fun _ h => h.elim) (fun _ _ => nbE)
               have hrc := hch6.reads (S' := fun z => wb.heap.size ≤ z ∧ z < w6'.heap.size ∧ wo.heap.size ≤ z) (fun _ h => h.elim) (fun z h1 h2 => ⟨by omega, h2, by omega⟩) (by rw [Hsl2.out]; simp [maxLen]; omega)
               have Hob := Lib.hid (show ∀ z, (Value.slice ga done.length gc).ownBlock = some z → wb.heap.size ≤ z ∧ z < wo.heap.size from hown3.block)
               refine wpList_own rfl (.tmp 191) (.tmp 193) 43 rfl wb.heap.size 101 Tryz.underlying43 infoPartR rfl (by decide) rfl (ho6.mono (Nat.le_refl _) (S' := fun z => wb.heap.size ≤ z) (fun z h => h.1)) rfl [Pt.dt ⟨x0, spotsOf rest kl⟩] [.int .i64 (x0 : Nat), .slice pa kl pc] rfl (ReadsC.single rfl (reads_pt (hrc.mono (fun z h => ⟨h.1, fun e => by have := (Hob.out z e).2; have := h.2.2; omega⟩)))) hb6.news (fun e => by cases e) ?_ ?_ ?_ ?_
               ·rw [Hdl.out]; simp [maxLen]; omega
               ·rw [Hdl.out]; omega
               ·omega
               intro ao9 cap9 w9' ho9 hc9 _
               rw [Hdl.out] at ho9 ⊢
               have hob9 := (hobI.keep hc6 nbE).keep hc9 (fun e => by have := (Hob.out _ e).1; omega)
               have o9 : w9'.cell? ⟨w2.heap.size, 5, none⟩ = some (.slice ga done.length gc) := hob9.cell 5
               have f9 : w9'.frozen? ⟨w2.heap.size, 5, none⟩ = false := hob9.free 5
               go_wp2_with fail
               go_roundw
               case rel =>
                have hbA := hob9.set 5 (.slice ao9 (done.length + 1) cap9)
                have hcA : Chg (OneB w2.heap.size) w9' (w9'.setCell ⟨w2.heap.size, 5, none⟩ (.slice ao9 (done.length + 1) cap9)) := (Chg.refl (OneB w2.heap.size) w9').setCell (p := ⟨w2.heap.size, 5, none⟩) (.inl rfl) _
                have hrl9 : acc.length - (tt + (1 + 2 * kl)) = acc.length - tt - (1 + 2 * kl) := by omega
                refine ⟨tt + (1 + 2 * kl), m', at1, done ++ [⟨x0, spotsOf rest kl⟩], .slice ao9 (done.length + 1) cap9, by go_num, rfl, by omega, ?_, ?_, ?_, hbA, ?_, ?_, ?_⟩
                ·rw [hrl9, Hmk.out, Nat.succ_mul, Nat.add_sub_cancel]
                ·rw [hrl9, Nat.mul_sub_right_distrib]
                 have h7 : kl * 200000 ≤ (1 + 2 * kl) * 200000 := Nat.mul_le_mul_right _ (by omega)
                 have h8 : (1 + 2 * kl) * 200000 ≤ (acc.length - tt) * 200000 := Nat.mul_le_mul_right _ hlen1
                 omega
                ·rw [hrl9, List.length_append, List.length_singleton]; omega
                ·rw [List.map_append]
                 exact ho9.keep hcA (fun z h e => by have e : z = w2.heap.size := e; omega) (fun z hz e => by have := (ho9.block z hz).1; have e : z = w2.heap.size := e; omega)
                ·exact ((hc3.tr hcr6).trans hc9 (fun z e => .inr (Hob.out z e).1)).trans hcA (fun z e => .inl e)
                ·rw [Hres3.out, ← Hrest.out, grp_more hok (by rw [Hg0.out]; exact Hx00.out), Option.map_map, Hat1.out, Hg0.out, Hrest.out, List.drop_drop]
                 congr 1
                 funext r
                 simp
               case measure => simp [intOf]; omega
           ·have htqI : ¬ (tt : Int) < (acc.length : Int) := by omega
            --DEV{
            obtain rfl : tt = acc.length := by omega
            obtain rfl : m3 = 0 := by
             rcases Nat.eq_zero_or_pos m3 with h0 | h0
             ·exact h0
             ·have h1 := Hmk.out
              have h2 : 1 * (1 + 2 * kl) ≤ m3 * (1 + 2 * kl) := Nat.mul_le_mul_right _ h0
              omega
            have hpart : partF kl a0 g = if a = a0 then some done else none := by
             rw [part_grp hqs.out Hmod.out, Hres3.out]
             simp [grpF]
            have Hpart := Lib.hid hpart
            have hne9 : w.heap.size ≠ w2.heap.size := by omega
            have hbx := hbr.keep hc3 (fun e => hne9 e)
            have hc0x := hc0b.trans hc3 (fun z e => .inr (by have e : z = w2.heap.size := e; omega))
            clear hpart
            by_cases haa : a = a0
            ·subst haa
             have hR1 := hrdb.chg hc3 (fun z h e => by have e : z = w2.heap.size := e; have := h.1; omega)
             have hR2 := hown3.reads (S' := fun z => wb.heap.size ≤ z) (fun z h => h) (fun z h _ => h) (by rw [Hdl.out]; simp [maxLen]; omega)
             have x0 : wr.cell? ⟨w2.heap.size, 0, none⟩ = some (.int .i64 (i)) := hobr.cell 0
             have x1 : wr.cell? ⟨w2.heap.size, 1, none⟩ = some (.string nm) := hobr.cell 1
             have x2 : wr.cell? ⟨w2.heap.size, 2, none⟩ = some (.int .i64 (r)) := hobr.cell 2
             have x3 : wr.cell? ⟨w2.heap.size, 3, none⟩ = some (.int .i64 (k)) := hobr.cell 3
             have x4 : wr.cell? ⟨w2.heap.size, 4, none⟩ = some (.slice a6 sb.length cap6) := hobr.cell 4
             have x5 : wr.cell? ⟨w2.heap.size, 5, none⟩ = some (.slice ga done.length gc) := hobr.cell 5
             have x6 : wr.cell? ⟨w2.heap.size, 6, none⟩ = some (.int .i64 ((n : Nat))) := hobr.cell 6
             have z0 : wr.frozen? ⟨w.heap.size, 0, none⟩ = false := hbx.free 0
             have z1 : wr.frozen? ⟨w.heap.size, 1, none⟩ = false := hbx.free 1
             have z2 : wr.frozen? ⟨w.heap.size, 2, none⟩ = false := hbx.free 2
             have z3 : wr.frozen? ⟨w.heap.size, 3, none⟩ = false := hbx.free 3
             have z4 : wr.frozen? ⟨w.heap.size, 4, none⟩ = false := hbx.free 4
             have z5 : wr.frozen? ⟨w.heap.size, 5, none⟩ = false := hbx.free 5
             have z6 : wr.frozen? ⟨w.heap.size, 6, none⟩ = false := hbx.free 6
             have y0 : wr.cell? ⟨w.heap.size, 0, none⟩ = some (.int .i64 (0)) := hbx.cell 0
             have y1 : wr.cell? ⟨w.heap.size, 1, none⟩ = some (.string ⟨#[]⟩) := hbx.cell 1
             have y2 : wr.cell? ⟨w.heap.size, 2, none⟩ = some (.int .i64 (0)) := hbx.cell 2
             have y3 : wr.cell? ⟨w.heap.size, 3, none⟩ = some (.int .i64 (0)) := hbx.cell 3
             have y4 : wr.cell? ⟨w.heap.size, 4, none⟩ = some (.slice none 0 0) := hbx.cell 4
             have y5 : wr.cell? ⟨w.heap.size, 5, none⟩ = some (.slice none 0 0) := hbx.cell 5
             have y6 : wr.cell? ⟨w.heap.size, 6, none⟩ = some (.int .i64 (0)) := hbx.cell 6
             go_wp2_with fail
             have hbE := store7 hbx (.int .i64 (i)) (.string nm) (.int .i64 (r)) (.int .i64 (k)) (.slice a6 sb.length cap6) (.slice ga done.length gc) (.int .i64 ((n : Nat)))
             have hsE := store7_chg wr (w.heap.size) (.int .i64 (i)) (.string nm) (.int .i64 (r)) (.int .i64 (k)) (.slice a6 sb.length cap6) (.slice ga done.length gc) (.int .i64 ((n : Nat)))
             have hcE := hc0x.trans hsE (fun i e => .inr (by have e : i = w.heap.size := e; omega))
             generalize World.setCell (World.setCell (World.setCell (World.setCell (World.setCell (World.setCell (World.setCell wr ⟨w.heap.size, 0, none⟩ (.int .i64 (i))) ⟨w.heap.size, 1, none⟩ (.string nm)) ⟨w.heap.size, 2, none⟩ (.int .i64 (r))) ⟨w.heap.size, 3, none⟩ (.int .i64 (k))) ⟨w.heap.size, 4, none⟩ (.slice a6 sb.length cap6)) ⟨w.heap.size, 5, none⟩ (.slice ga done.length gc)) ⟨w.heap.size, 6, none⟩ (.int .i64 ((n : Nat))) = wE at hbE hsE hcE ⊢
             have n0 : wE.cell? ⟨w.heap.size, 0, none⟩ = some (.int .i64 (i)) := hbE.cell 0
             have n1 : wE.cell? ⟨w.heap.size, 1, none⟩ = some (.string nm) := hbE.cell 1
             have n2 : wE.cell? ⟨w.heap.size, 2, none⟩ = some (.int .i64 (r)) := hbE.cell 2
             have n3 : wE.cell? ⟨w.heap.size, 3, none⟩ = some (.int .i64 (k)) := hbE.cell 3
             have n4 : wE.cell? ⟨w.heap.size, 4, none⟩ = some (.slice a6 sb.length cap6) := hbE.cell 4
             have n5 : wE.cell? ⟨w.heap.size, 5, none⟩ = some (.slice ga done.length gc) := hbE.cell 5
             have n6 : wE.cell? ⟨w.heap.size, 6, none⟩ = some (.int .i64 ((n : Nat))) := hbE.cell 6
             rw [HQ.out]
             refine bodyPost_ret (v := .tuple #[.agg #[.int .i64 i, .string nm, .int .i64 r, .int .i64 k, .slice a6 sb.length cap6, .slice ga done.length gc, .int .i64 (n : Nat)], .int .i64 0]) (resOpenOf rfl rfl n0 n1 n2 n3 n4 n5 n6) rfl ?_
             rw [open_fine Hf.out He.out Hr.out (by rw [← Hkl.out, ← Ha0.out, Hpart.out, if_pos trivial])]
             refine ⟨hcE, i, nm, r, k, _, _, rfl, ?_, ?_⟩
             ·exact (hR1.chg hsE (fun b h e => by have e : b = w.heap.size := e; have := h.1; omega)).mono (fun b h => by have := h.1; omega)
             ·exact (hR2.chg hsE (fun b h e => by have e : b = w.heap.size := e; omega)).mono (fun b h => by omega)
            ·have haa' : ((a : Int) != (a0 : Int)) = true := by rw [bne_iff_ne]; omega
             have Haa := Lib.hid haa
             clear haa
             have z0 : wr.frozen? ⟨w.heap.size, 0, none⟩ = false := hbx.free 0
             have z1 : wr.frozen? ⟨w.heap.size, 1, none⟩ = false := hbx.free 1
             have z2 : wr.frozen? ⟨w.heap.size, 2, none⟩ = false := hbx.free 2
             have z3 : wr.frozen? ⟨w.heap.size, 3, none⟩ = false := hbx.free 3
             have z4 : wr.frozen? ⟨w.heap.size, 4, none⟩ = false := hbx.free 4
             have z5 : wr.frozen? ⟨w.heap.size, 5, none⟩ = false := hbx.free 5
             have z6 : wr.frozen? ⟨w.heap.size, 6, none⟩ = false := hbx.free 6
             have y0 : wr.cell? ⟨w.heap.size, 0, none⟩ = some (.int .i64 (0)) := hbx.cell 0
             have y1 : wr.cell? ⟨w.heap.size, 1, none⟩ = some (.string ⟨#[]⟩) := hbx.cell 1
             have y2 : wr.cell? ⟨w.heap.size, 2, none⟩ = some (.int .i64 (0)) := hbx.cell 2
             have y3 : wr.cell? ⟨w.heap.size, 3, none⟩ = some (.int .i64 (0)) := hbx.cell 3
             have y4 : wr.cell? ⟨w.heap.size, 4, none⟩ = some (.slice none 0 0) := hbx.cell 4
             have y5 : wr.cell? ⟨w.heap.size, 5, none⟩ = some (.slice none 0 0) := hbx.cell 5
             have y6 : wr.cell? ⟨w.heap.size, 6, none⟩ = some (.int .i64 (0)) := hbx.cell 6
             go_wp2_with fail
             rw [HQ.out]
             have hbE := store7 hbx (.int .i64 (0)) (.string ⟨#[]⟩) (.int .i64 (0)) (.int .i64 (0)) (.slice none 0 0) (.slice none 0 0) (.int .i64 (0))
             have hsE := store7_chg wr (w.heap.size) (.int .i64 (0)) (.string ⟨#[]⟩) (.int .i64 (0)) (.int .i64 (0)) (.slice none 0 0) (.slice none 0 0) (.int .i64 (0))
             have hcE := hc0x.trans hsE (fun i e => .inr (by have e : i = w.heap.size := e; omega))
             generalize World.setCell (World.setCell (World.setCell (World.setCell (World.setCell (World.setCell (World.setCell wr ⟨w.heap.size, 0, none⟩ (.int .i64 (0))) ⟨w.heap.size, 1, none⟩ (.string ⟨#[]⟩)) ⟨w.heap.size, 2, none⟩ (.int .i64 (0))) ⟨w.heap.size, 3, none⟩ (.int .i64 (0))) ⟨w.heap.size, 4, none⟩ (.slice none 0 0)) ⟨w.heap.size, 5, none⟩ (.slice none 0 0)) ⟨w.heap.size, 6, none⟩ (.int .i64 (0)) = wE at hbE hsE hcE ⊢
             have n0 : wE.cell? ⟨w.heap.size, 0, none⟩ = some (.int .i64 (0)) := hbE.cell 0
             have n1 : wE.cell? ⟨w.heap.size, 1, none⟩ = some (.string ⟨#[]⟩) := hbE.cell 1
             have n2 : wE.cell? ⟨w.heap.size, 2, none⟩ = some (.int .i64 (0)) := hbE.cell 2
             have n3 : wE.cell? ⟨w.heap.size, 3, none⟩ = some (.int .i64 (0)) := hbE.cell 3
             have n4 : wE.cell? ⟨w.heap.size, 4, none⟩ = some (.slice none 0 0) := hbE.cell 4
             have n5 : wE.cell? ⟨w.heap.size, 5, none⟩ = some (.slice none 0 0) := hbE.cell 5
             have n6 : wE.cell? ⟨w.heap.size, 6, none⟩ = some (.int .i64 (0)) := hbE.cell 6
             refine bodyPost_ret (v := .tuple #[zeroFt, .int .i64 1]) (by first | exact resOpenOf rfl rfl n0 n1 n2 n3 n4 n5 n6 | exact resOpen rfl rfl n0 n1 n2 n3 n4 n5 n6) rfl ?_
             rw [open_part Hf.out He.out Hr.out (by rw [← Hkl.out, ← Ha0.out, Hpart.out, if_neg Haa.out])]
             exact ⟨hcE, rfl⟩
            --DEV}
         ·have hmod' : (((acc.length : Int) % (1 + 2 * (kl : Int))) != 0) = true := by rw [hkmod, bne_iff_ne]; omega
          --DEV{
          have Hmod := Lib.hid hmod
          clear hmod hkmod hal hls
          have z0 : wr.frozen? ⟨w.heap.size, 0, none⟩ = false := hbr.free 0
          have z1 : wr.frozen? ⟨w.heap.size, 1, none⟩ = false := hbr.free 1
          have z2 : wr.frozen? ⟨w.heap.size, 2, none⟩ = false := hbr.free 2
          have z3 : wr.frozen? ⟨w.heap.size, 3, none⟩ = false := hbr.free 3
          have z4 : wr.frozen? ⟨w.heap.size, 4, none⟩ = false := hbr.free 4
          have z5 : wr.frozen? ⟨w.heap.size, 5, none⟩ = false := hbr.free 5
          have z6 : wr.frozen? ⟨w.heap.size, 6, none⟩ = false := hbr.free 6
          have y0 : wr.cell? ⟨w.heap.size, 0, none⟩ = some (.int .i64 (0)) := hbr.cell 0
          have y1 : wr.cell? ⟨w.heap.size, 1, none⟩ = some (.string ⟨#[]⟩) := hbr.cell 1
          have y2 : wr.cell? ⟨w.heap.size, 2, none⟩ = some (.int .i64 (0)) := hbr.cell 2
          have y3 : wr.cell? ⟨w.heap.size, 3, none⟩ = some (.int .i64 (0)) := hbr.cell 3
          have y4 : wr.cell? ⟨w.heap.size, 4, none⟩ = some (.slice none 0 0) := hbr.cell 4
          have y5 : wr.cell? ⟨w.heap.size, 5, none⟩ = some (.slice none 0 0) := hbr.cell 5
          have y6 : wr.cell? ⟨w.heap.size, 6, none⟩ = some (.int .i64 (0)) := hbr.cell 6
          go_wp2_with fail
          rw [HQ.out]
          have hbE := store7 hbr (.int .i64 (0)) (.string ⟨#[]⟩) (.int .i64 (0)) (.int .i64 (0)) (.slice none 0 0) (.slice none 0 0) (.int .i64 (0))
          have hsE := store7_chg wr (w.heap.size) (.int .i64 (0)) (.string ⟨#[]⟩) (.int .i64 (0)) (.int .i64 (0)) (.slice none 0 0) (.slice none 0 0) (.int .i64 (0))
          have hcE := hc0r.trans hsE (fun i e => .inr (by have e : i = w.heap.size := e; omega))
          generalize World.setCell (World.setCell (World.setCell (World.setCell (World.setCell (World.setCell (World.setCell wr ⟨w.heap.size, 0, none⟩ (.int .i64 (0))) ⟨w.heap.size, 1, none⟩ (.string ⟨#[]⟩)) ⟨w.heap.size, 2, none⟩ (.int .i64 (0))) ⟨w.heap.size, 3, none⟩ (.int .i64 (0))) ⟨w.heap.size, 4, none⟩ (.slice none 0 0)) ⟨w.heap.size, 5, none⟩ (.slice none 0 0)) ⟨w.heap.size, 6, none⟩ (.int .i64 (0)) = wE at hbE hsE hcE ⊢
          have n0 : wE.cell? ⟨w.heap.size, 0, none⟩ = some (.int .i64 (0)) := hbE.cell 0
          have n1 : wE.cell? ⟨w.heap.size, 1, none⟩ = some (.string ⟨#[]⟩) := hbE.cell 1
          have n2 : wE.cell? ⟨w.heap.size, 2, none⟩ = some (.int .i64 (0)) := hbE.cell 2
          have n3 : wE.cell? ⟨w.heap.size, 3, none⟩ = some (.int .i64 (0)) := hbE.cell 3
          have n4 : wE.cell? ⟨w.heap.size, 4, none⟩ = some (.slice none 0 0) := hbE.cell 4
          have n5 : wE.cell? ⟨w.heap.size, 5, none⟩ = some (.slice none 0 0) := hbE.cell 5
          have n6 : wE.cell? ⟨w.heap.size, 6, none⟩ = some (.int .i64 (0)) := hbE.cell 6
          refine bodyPost_ret (v := .tuple #[zeroFt, .int .i64 1]) (by first | exact resOpenOf rfl rfl n0 n1 n2 n3 n4 n5 n6 | exact resOpen rfl rfl n0 n1 n2 n3 n4 n5 n6) rfl ?_
          rw [open_part Hf.out He.out Hr.out (part_size hqs.out (by rw [← Hkl.out]; exact Hmod.out))]
          exact ⟨hcE, rfl⟩
          --DEV}
        ·have hne : g1.isEmpty = false := by simpa using hgl
         --DEV{
         have Hgl := Lib.hid hgl
         clear hgl
         go_wp2_with fail
         refine (rsL_any g1 wr (by omega)).mono ?_
         rintro en w1 ⟨rfl, hc1⟩
         have hb1 := hbr.keep hc1 nbE
         have hc01 := hc0r.tr hc1
         cases hsv : sev g1 with
         | none =>
          have H := Lib.hid hsv
          clear hsv
          simp only [sevU]
          have z0 : w1.frozen? ⟨w.heap.size, 0, none⟩ = false := hb1.free 0
          have z1 : w1.frozen? ⟨w.heap.size, 1, none⟩ = false := hb1.free 1
          have z2 : w1.frozen? ⟨w.heap.size, 2, none⟩ = false := hb1.free 2
          have z3 : w1.frozen? ⟨w.heap.size, 3, none⟩ = false := hb1.free 3
          have z4 : w1.frozen? ⟨w.heap.size, 4, none⟩ = false := hb1.free 4
          have z5 : w1.frozen? ⟨w.heap.size, 5, none⟩ = false := hb1.free 5
          have z6 : w1.frozen? ⟨w.heap.size, 6, none⟩ = false := hb1.free 6
          have y0 : w1.cell? ⟨w.heap.size, 0, none⟩ = some (.int .i64 (0)) := hb1.cell 0
          have y1 : w1.cell? ⟨w.heap.size, 1, none⟩ = some (.string ⟨#[]⟩) := hb1.cell 1
          have y2 : w1.cell? ⟨w.heap.size, 2, none⟩ = some (.int .i64 (0)) := hb1.cell 2
          have y3 : w1.cell? ⟨w.heap.size, 3, none⟩ = some (.int .i64 (0)) := hb1.cell 3
          have y4 : w1.cell? ⟨w.heap.size, 4, none⟩ = some (.slice none 0 0) := hb1.cell 4
          have y5 : w1.cell? ⟨w.heap.size, 5, none⟩ = some (.slice none 0 0) := hb1.cell 5
          have y6 : w1.cell? ⟨w.heap.size, 6, none⟩ = some (.int .i64 (0)) := hb1.cell 6
          go_wp2_with fail
          rw [HQ.out]
          have hbE := store7 hb1 (.int .i64 (0)) (.string ⟨#[]⟩) (.int .i64 (0)) (.int .i64 (0)) (.slice none 0 0) (.slice none 0 0) (.int .i64 (0))
          have hsE := store7_chg w1 (w.heap.size) (.int .i64 (0)) (.string ⟨#[]⟩) (.int .i64 (0)) (.int .i64 (0)) (.slice none 0 0) (.slice none 0 0) (.int .i64 (0))
          have hcE := hc01.trans hsE (fun i e => .inr (by have e : i = w.heap.size := e; omega))
          generalize World.setCell (World.setCell (World.setCell (World.setCell (World.setCell (World.setCell (World.setCell w1 ⟨w.heap.size, 0, none⟩ (.int .i64 (0))) ⟨w.heap.size, 1, none⟩ (.string ⟨#[]⟩)) ⟨w.heap.size, 2, none⟩ (.int .i64 (0))) ⟨w.heap.size, 3, none⟩ (.int .i64 (0))) ⟨w.heap.size, 4, none⟩ (.slice none 0 0)) ⟨w.heap.size, 5, none⟩ (.slice none 0 0)) ⟨w.heap.size, 6, none⟩ (.int .i64 (0)) = wE at hbE hsE hcE ⊢
          have n0 : wE.cell? ⟨w.heap.size, 0, none⟩ = some (.int .i64 (0)) := hbE.cell 0
          have n1 : wE.cell? ⟨w.heap.size, 1, none⟩ = some (.string ⟨#[]⟩) := hbE.cell 1
          have n2 : wE.cell? ⟨w.heap.size, 2, none⟩ = some (.int .i64 (0)) := hbE.cell 2
          have n3 : wE.cell? ⟨w.heap.size, 3, none⟩ = some (.int .i64 (0)) := hbE.cell 3
          have n4 : wE.cell? ⟨w.heap.size, 4, none⟩ = some (.slice none 0 0) := hbE.cell 4
          have n5 : wE.cell? ⟨w.heap.size, 5, none⟩ = some (.slice none 0 0) := hbE.cell 5
          have n6 : wE.cell? ⟨w.heap.size, 6, none⟩ = some (.int .i64 (0)) := hbE.cell 6
          refine bodyPost_ret (v := .tuple #[zeroFt, .int .i64 1]) (by first | exact resOpenOf rfl rfl n0 n1 n2 n3 n4 n5 n6 | exact resOpen rfl rfl n0 n1 n2 n3 n4 n5 n6) rfl ?_
          rw [open_part Hf.out He.out Hr.out (part_nums (by rw [Hgres.out, nums_bad Hgl.out H.out]; rfl))]
          exact ⟨hcE, rfl⟩
         | some p =>
          obtain ⟨x, u⟩ := p
          obtain ⟨b1, b2, b3, b4⟩ := sev_some hsv
          have H := Lib.hid hsv
          clear hsv
          have hu1 : ((u : Int) == 0) = false := by simp; omega
          simp only [sevU]
          by_cases hn : 200000 < x
          ·have hn' : (200000 : Int) < (x : Int) := by omega
           have z0 : w1.frozen? ⟨w.heap.size, 0, none⟩ = false := hb1.free 0
           have z1 : w1.frozen? ⟨w.heap.size, 1, none⟩ = false := hb1.free 1
           have z2 : w1.frozen? ⟨w.heap.size, 2, none⟩ = false := hb1.free 2
           have z3 : w1.frozen? ⟨w.heap.size, 3, none⟩ = false := hb1.free 3
           have z4 : w1.frozen? ⟨w.heap.size, 4, none⟩ = false := hb1.free 4
           have z5 : w1.frozen? ⟨w.heap.size, 5, none⟩ = false := hb1.free 5
           have z6 : w1.frozen? ⟨w.heap.size, 6, none⟩ = false := hb1.free 6
           have y0 : w1.cell? ⟨w.heap.size, 0, none⟩ = some (.int .i64 (0)) := hb1.cell 0
           have y1 : w1.cell? ⟨w.heap.size, 1, none⟩ = some (.string ⟨#[]⟩) := hb1.cell 1
           have y2 : w1.cell? ⟨w.heap.size, 2, none⟩ = some (.int .i64 (0)) := hb1.cell 2
           have y3 : w1.cell? ⟨w.heap.size, 3, none⟩ = some (.int .i64 (0)) := hb1.cell 3
           have y4 : w1.cell? ⟨w.heap.size, 4, none⟩ = some (.slice none 0 0) := hb1.cell 4
           have y5 : w1.cell? ⟨w.heap.size, 5, none⟩ = some (.slice none 0 0) := hb1.cell 5
           have y6 : w1.cell? ⟨w.heap.size, 6, none⟩ = some (.int .i64 (0)) := hb1.cell 6
           go_wp2_with fail
           rw [HQ.out]
           have hbE := store7 hb1 (.int .i64 (0)) (.string ⟨#[]⟩) (.int .i64 (0)) (.int .i64 (0)) (.slice none 0 0) (.slice none 0 0) (.int .i64 (0))
           have hsE := store7_chg w1 (w.heap.size) (.int .i64 (0)) (.string ⟨#[]⟩) (.int .i64 (0)) (.int .i64 (0)) (.slice none 0 0) (.slice none 0 0) (.int .i64 (0))
           have hcE := hc01.trans hsE (fun i e => .inr (by have e : i = w.heap.size := e; omega))
           generalize World.setCell (World.setCell (World.setCell (World.setCell (World.setCell (World.setCell (World.setCell w1 ⟨w.heap.size, 0, none⟩ (.int .i64 (0))) ⟨w.heap.size, 1, none⟩ (.string ⟨#[]⟩)) ⟨w.heap.size, 2, none⟩ (.int .i64 (0))) ⟨w.heap.size, 3, none⟩ (.int .i64 (0))) ⟨w.heap.size, 4, none⟩ (.slice none 0 0)) ⟨w.heap.size, 5, none⟩ (.slice none 0 0)) ⟨w.heap.size, 6, none⟩ (.int .i64 (0)) = wE at hbE hsE hcE ⊢
           have n0 : wE.cell? ⟨w.heap.size, 0, none⟩ = some (.int .i64 (0)) := hbE.cell 0
           have n1 : wE.cell? ⟨w.heap.size, 1, none⟩ = some (.string ⟨#[]⟩) := hbE.cell 1
           have n2 : wE.cell? ⟨w.heap.size, 2, none⟩ = some (.int .i64 (0)) := hbE.cell 2
           have n3 : wE.cell? ⟨w.heap.size, 3, none⟩ = some (.int .i64 (0)) := hbE.cell 3
           have n4 : wE.cell? ⟨w.heap.size, 4, none⟩ = some (.slice none 0 0) := hbE.cell 4
           have n5 : wE.cell? ⟨w.heap.size, 5, none⟩ = some (.slice none 0 0) := hbE.cell 5
           have n6 : wE.cell? ⟨w.heap.size, 6, none⟩ = some (.int .i64 (0)) := hbE.cell 6
           refine bodyPost_ret (v := .tuple #[zeroFt, .int .i64 1]) (by first | exact resOpenOf rfl rfl n0 n1 n2 n3 n4 n5 n6 | exact resOpen rfl rfl n0 n1 n2 n3 n4 n5 n6) rfl ?_
           rw [open_part Hf.out He.out Hr.out (part_nums (by rw [Hgres.out, nums_big Hgl.out H.out hn]; rfl))]
           exact ⟨hcE, rfl⟩
          ·have hn' : (x : Int) ≤ 200000 := by omega
           have hu0 : (u : Int) ≤ (g1.length : Int) := by omega
           go_wp2_with (at_builtin; refine stop_here ?_)
           refine Stop.go ?_
           generalize hw2 : World.alloc _ _ = wB
           have hcB : Chg NoB w1 wB := by
            rw [← hw2]
            repeat (first | exact Chg.refl _ _ | apply Chg.alloc | apply Chg.drew)
           have hbB : Blk wB (w1.heap.size) ([.int .i64 (x : Nat)]) 3 := by
            rw [← hw2]
            repeat (first | exact Blk.newAt (by first | rfl | (simp; done) | (simp; omega)) | apply Blk.alloc | apply Blk.drew)
           clear hw2
           have hoB := (hown.keep hc1 (fun _ h => h.elim) (fun _ _ => nbE)).keep hcB (fun _ h => h.elim) (fun _ _ => nbE)
           refine wpList_own rfl (.tmp 118) (.tmp 121) 65 rfl w9.heap.size 3 Tryz.underlying65 infoInt1 rfl (by decide) rfl hoB rfl [natDt x] [.int .i64 (x : Nat)] rfl (ReadsC.single rfl ⟨rfl, rfl⟩) hbB.news (fun e => by cases e) ?_ ?_ ?_ ?_
           ·rw [List.length_map]; simp [maxLen]; omega
           ·rw [List.length_map]; omega
           ·have h1 := hcg.size; have h2 := hc1.size; have h3 := hcB.size; omega
           intro aoC capC wC hoC hcC _
           rw [List.length_map] at hoC ⊢
           go_wp2_with fail
           go_roundw
           case rel =>
            refine ⟨g1.drop u, m, acc ++ [x], by rw [extL], by rw [List.length_drop]; omega, by rw [List.length_drop, List.length_append, List.length_singleton]; omega, ?_, ?_, ?_⟩
            ·rw [Hgres.out, nums_more Hgl.out H.out (by omega), Option.map_map]
             congr 1
             funext z
             simp
            ·rw [List.map_append]
             exact hoC
            ·exact ((hcg.tr hc1).tr hcB).trans hcC (fun b hb => .inr (hown.block b hb).1)
           case measure =>
            simp only [strL]
            rw [extL, siz_list, siz_list, List.length_drop]
            omega
         --DEV}
    ·have h2' : ((seen : Int) != 2) = true := by simp; omega
     --DEV{
     rw [if_neg h2] at hent
     have He := Lib.hid (show entF (n + 1) 0 [] [] (footText l n) = none from by rw [Hres.out, hent])
     clear hent h2
     have z0 : wr.frozen? ⟨w.heap.size, 0, none⟩ = false := hbr.free 0
     have z1 : wr.frozen? ⟨w.heap.size, 1, none⟩ = false := hbr.free 1
     have z2 : wr.frozen? ⟨w.heap.size, 2, none⟩ = false := hbr.free 2
     have z3 : wr.frozen? ⟨w.heap.size, 3, none⟩ = false := hbr.free 3
     have z4 : wr.frozen? ⟨w.heap.size, 4, none⟩ = false := hbr.free 4
     have z5 : wr.frozen? ⟨w.heap.size, 5, none⟩ = false := hbr.free 5
     have z6 : wr.frozen? ⟨w.heap.size, 6, none⟩ = false := hbr.free 6
     have y0 : wr.cell? ⟨w.heap.size, 0, none⟩ = some (.int .i64 (0)) := hbr.cell 0
     have y1 : wr.cell? ⟨w.heap.size, 1, none⟩ = some (.string ⟨#[]⟩) := hbr.cell 1
     have y2 : wr.cell? ⟨w.heap.size, 2, none⟩ = some (.int .i64 (0)) := hbr.cell 2
     have y3 : wr.cell? ⟨w.heap.size, 3, none⟩ = some (.int .i64 (0)) := hbr.cell 3
     have y4 : wr.cell? ⟨w.heap.size, 4, none⟩ = some (.slice none 0 0) := hbr.cell 4
     have y5 : wr.cell? ⟨w.heap.size, 5, none⟩ = some (.slice none 0 0) := hbr.cell 5
     have y6 : wr.cell? ⟨w.heap.size, 6, none⟩ = some (.int .i64 (0)) := hbr.cell 6
     go_wp2_with fail
     rw [HQ.out]
     have hbE := store7 hbr (.int .i64 (0)) (.string ⟨#[]⟩) (.int .i64 (0)) (.int .i64 (0)) (.slice none 0 0) (.slice none 0 0) (.int .i64 (0))
     have hsE := store7_chg wr (w.heap.size) (.int .i64 (0)) (.string ⟨#[]⟩) (.int .i64 (0)) (.int .i64 (0)) (.slice none 0 0) (.slice none 0 0) (.int .i64 (0))
     have hcE := hc0r.trans hsE (fun i e => .inr (by have e : i = w.heap.size := e; omega))
     generalize World.setCell (World.setCell (World.setCell (World.setCell (World.setCell (World.setCell (World.setCell wr ⟨w.heap.size, 0, none⟩ (.int .i64 (0))) ⟨w.heap.size, 1, none⟩ (.string ⟨#[]⟩)) ⟨w.heap.size, 2, none⟩ (.int .i64 (0))) ⟨w.heap.size, 3, none⟩ (.int .i64 (0))) ⟨w.heap.size, 4, none⟩ (.slice none 0 0)) ⟨w.heap.size, 5, none⟩ (.slice none 0 0)) ⟨w.heap.size, 6, none⟩ (.int .i64 (0)) = wE at hbE hsE hcE ⊢
     have n0 : wE.cell? ⟨w.heap.size, 0, none⟩ = some (.int .i64 (0)) := hbE.cell 0
     have n1 : wE.cell? ⟨w.heap.size, 1, none⟩ = some (.string ⟨#[]⟩) := hbE.cell 1
     have n2 : wE.cell? ⟨w.heap.size, 2, none⟩ = some (.int .i64 (0)) := hbE.cell 2
     have n3 : wE.cell? ⟨w.heap.size, 3, none⟩ = some (.int .i64 (0)) := hbE.cell 3
     have n4 : wE.cell? ⟨w.heap.size, 4, none⟩ = some (.slice none 0 0) := hbE.cell 4
     have n5 : wE.cell? ⟨w.heap.size, 5, none⟩ = some (.slice none 0 0) := hbE.cell 5
     have n6 : wE.cell? ⟨w.heap.size, 6, none⟩ = some (.int .i64 (0)) := hbE.cell 6
     refine bodyPost_ret (v := .tuple #[zeroFt, .int .i64 1]) (by first | exact resOpenOf rfl rfl n0 n1 n2 n3 n4 n5 n6 | exact resOpen rfl rfl n0 n1 n2 n3 n4 n5 n6) rfl ?_
     rw [open_ent Hf.out He.out]
     exact ⟨hcE, rfl⟩
     --DEV}
   ·have hne : f.isEmpty = false := by simpa using hl
    --DEV{
    have Hl := Lib.hid hl
    clear hl
    go_wp2_with fail
    refine (rsL_any f wr (by omega)).mono ?_
    rintro en w1 ⟨rfl, hc1⟩
    have hb1 := hbr.keep hc1 nbE
    have hc01 := hc0r.tr hc1
    cases hsv : sev f with
    | none =>
     have H := Lib.hid hsv
     clear hsv
     simp only [sevU]
     have z0 : w1.frozen? ⟨w.heap.size, 0, none⟩ = false := hb1.free 0
     have z1 : w1.frozen? ⟨w.heap.size, 1, none⟩ = false := hb1.free 1
     have z2 : w1.frozen? ⟨w.heap.size, 2, none⟩ = false := hb1.free 2
     have z3 : w1.frozen? ⟨w.heap.size, 3, none⟩ = false := hb1.free 3
     have z4 : w1.frozen? ⟨w.heap.size, 4, none⟩ = false := hb1.free 4
     have z5 : w1.frozen? ⟨w.heap.size, 5, none⟩ = false := hb1.free 5
     have z6 : w1.frozen? ⟨w.heap.size, 6, none⟩ = false := hb1.free 6
     have y0 : w1.cell? ⟨w.heap.size, 0, none⟩ = some (.int .i64 (0)) := hb1.cell 0
     have y1 : w1.cell? ⟨w.heap.size, 1, none⟩ = some (.string ⟨#[]⟩) := hb1.cell 1
     have y2 : w1.cell? ⟨w.heap.size, 2, none⟩ = some (.int .i64 (0)) := hb1.cell 2
     have y3 : w1.cell? ⟨w.heap.size, 3, none⟩ = some (.int .i64 (0)) := hb1.cell 3
     have y4 : w1.cell? ⟨w.heap.size, 4, none⟩ = some (.slice none 0 0) := hb1.cell 4
     have y5 : w1.cell? ⟨w.heap.size, 5, none⟩ = some (.slice none 0 0) := hb1.cell 5
     have y6 : w1.cell? ⟨w.heap.size, 6, none⟩ = some (.int .i64 (0)) := hb1.cell 6
     go_wp2_with fail
     rw [HQ.out]
     have hbE := store7 hb1 (.int .i64 (0)) (.string ⟨#[]⟩) (.int .i64 (0)) (.int .i64 (0)) (.slice none 0 0) (.slice none 0 0) (.int .i64 (0))
     have hsE := store7_chg w1 (w.heap.size) (.int .i64 (0)) (.string ⟨#[]⟩) (.int .i64 (0)) (.int .i64 (0)) (.slice none 0 0) (.slice none 0 0) (.int .i64 (0))
     have hcE := hc01.trans hsE (fun i e => .inr (by have e : i = w.heap.size := e; omega))
     generalize World.setCell (World.setCell (World.setCell (World.setCell (World.setCell (World.setCell (World.setCell w1 ⟨w.heap.size, 0, none⟩ (.int .i64 (0))) ⟨w.heap.size, 1, none⟩ (.string ⟨#[]⟩)) ⟨w.heap.size, 2, none⟩ (.int .i64 (0))) ⟨w.heap.size, 3, none⟩ (.int .i64 (0))) ⟨w.heap.size, 4, none⟩ (.slice none 0 0)) ⟨w.heap.size, 5, none⟩ (.slice none 0 0)) ⟨w.heap.size, 6, none⟩ (.int .i64 (0)) = wE at hbE hsE hcE ⊢
     have n0 : wE.cell? ⟨w.heap.size, 0, none⟩ = some (.int .i64 (0)) := hbE.cell 0
     have n1 : wE.cell? ⟨w.heap.size, 1, none⟩ = some (.string ⟨#[]⟩) := hbE.cell 1
     have n2 : wE.cell? ⟨w.heap.size, 2, none⟩ = some (.int .i64 (0)) := hbE.cell 2
     have n3 : wE.cell? ⟨w.heap.size, 3, none⟩ = some (.int .i64 (0)) := hbE.cell 3
     have n4 : wE.cell? ⟨w.heap.size, 4, none⟩ = some (.slice none 0 0) := hbE.cell 4
     have n5 : wE.cell? ⟨w.heap.size, 5, none⟩ = some (.slice none 0 0) := hbE.cell 5
     have n6 : wE.cell? ⟨w.heap.size, 6, none⟩ = some (.int .i64 (0)) := hbE.cell 6
     refine bodyPost_ret (v := .tuple #[zeroFt, .int .i64 1]) (by first | exact resOpenOf rfl rfl n0 n1 n2 n3 n4 n5 n6 | exact resOpen rfl rfl n0 n1 n2 n3 n4 n5 n6) rfl ?_
     rw [open_ent Hf.out (by rw [Hres.out, ent_num Hl.out H.out])]
     exact ⟨hcE, rfl⟩
    | some p =>
     obtain ⟨k, u⟩ := p
     obtain ⟨b1, b2, b3, b4⟩ := sev_some hsv
     have H := Lib.hid hsv
     clear hsv
     have hu1 : ((u : Int) == 0) = false := by simp; omega
     simp only [sevU]
     by_cases hn : k = 0
     ·have H0 := Lib.hid (show sev f = some (0, u) from by rw [H.out, hn])
      have hn' : ((k : Int) == 0) = true := by simp; omega
      clear hn
      have z0 : w1.frozen? ⟨w.heap.size, 0, none⟩ = false := hb1.free 0
      have z1 : w1.frozen? ⟨w.heap.size, 1, none⟩ = false := hb1.free 1
      have z2 : w1.frozen? ⟨w.heap.size, 2, none⟩ = false := hb1.free 2
      have z3 : w1.frozen? ⟨w.heap.size, 3, none⟩ = false := hb1.free 3
      have z4 : w1.frozen? ⟨w.heap.size, 4, none⟩ = false := hb1.free 4
      have z5 : w1.frozen? ⟨w.heap.size, 5, none⟩ = false := hb1.free 5
      have z6 : w1.frozen? ⟨w.heap.size, 6, none⟩ = false := hb1.free 6
      have y0 : w1.cell? ⟨w.heap.size, 0, none⟩ = some (.int .i64 (0)) := hb1.cell 0
      have y1 : w1.cell? ⟨w.heap.size, 1, none⟩ = some (.string ⟨#[]⟩) := hb1.cell 1
      have y2 : w1.cell? ⟨w.heap.size, 2, none⟩ = some (.int .i64 (0)) := hb1.cell 2
      have y3 : w1.cell? ⟨w.heap.size, 3, none⟩ = some (.int .i64 (0)) := hb1.cell 3
      have y4 : w1.cell? ⟨w.heap.size, 4, none⟩ = some (.slice none 0 0) := hb1.cell 4
      have y5 : w1.cell? ⟨w.heap.size, 5, none⟩ = some (.slice none 0 0) := hb1.cell 5
      have y6 : w1.cell? ⟨w.heap.size, 6, none⟩ = some (.int .i64 (0)) := hb1.cell 6
      go_wp2_with fail
      rw [HQ.out]
      have hbE := store7 hb1 (.int .i64 (0)) (.string ⟨#[]⟩) (.int .i64 (0)) (.int .i64 (0)) (.slice none 0 0) (.slice none 0 0) (.int .i64 (0))
      have hsE := store7_chg w1 (w.heap.size) (.int .i64 (0)) (.string ⟨#[]⟩) (.int .i64 (0)) (.int .i64 (0)) (.slice none 0 0) (.slice none 0 0) (.int .i64 (0))
      have hcE := hc01.trans hsE (fun i e => .inr (by have e : i = w.heap.size := e; omega))
      generalize World.setCell (World.setCell (World.setCell (World.setCell (World.setCell (World.setCell (World.setCell w1 ⟨w.heap.size, 0, none⟩ (.int .i64 (0))) ⟨w.heap.size, 1, none⟩ (.string ⟨#[]⟩)) ⟨w.heap.size, 2, none⟩ (.int .i64 (0))) ⟨w.heap.size, 3, none⟩ (.int .i64 (0))) ⟨w.heap.size, 4, none⟩ (.slice none 0 0)) ⟨w.heap.size, 5, none⟩ (.slice none 0 0)) ⟨w.heap.size, 6, none⟩ (.int .i64 (0)) = wE at hbE hsE hcE ⊢
      have n0 : wE.cell? ⟨w.heap.size, 0, none⟩ = some (.int .i64 (0)) := hbE.cell 0
      have n1 : wE.cell? ⟨w.heap.size, 1, none⟩ = some (.string ⟨#[]⟩) := hbE.cell 1
      have n2 : wE.cell? ⟨w.heap.size, 2, none⟩ = some (.int .i64 (0)) := hbE.cell 2
      have n3 : wE.cell? ⟨w.heap.size, 3, none⟩ = some (.int .i64 (0)) := hbE.cell 3
      have n4 : wE.cell? ⟨w.heap.size, 4, none⟩ = some (.slice none 0 0) := hbE.cell 4
      have n5 : wE.cell? ⟨w.heap.size, 5, none⟩ = some (.slice none 0 0) := hbE.cell 5
      have n6 : wE.cell? ⟨w.heap.size, 6, none⟩ = some (.int .i64 (0)) := hbE.cell 6
      refine bodyPost_ret (v := .tuple #[zeroFt, .int .i64 1]) (by first | exact resOpenOf rfl rfl n0 n1 n2 n3 n4 n5 n6 | exact resOpen rfl rfl n0 n1 n2 n3 n4 n5 n6) rfl ?_
      rw [open_ent Hf.out (by rw [Hres.out, ent_zero Hl.out H0.out])]
      exact ⟨hcE, rfl⟩
     ·have hn' : ((k : Int) == 0) = false := by simp; omega
      have hu0 : (u : Int) ≤ (f.length : Int) := by omega
      go_wp2_with fail
      rw [extL]
      refine (rlL_any (f.drop u) w1 (by rw [List.length_drop]; omega)).mono ?_
      rintro en w2 ⟨rfl, hc2⟩
      have hb2 := hb1.keep hc2 nbE
      have hc02 := hc01.tr hc2
      have hcw2 := (hc.tr hc1).tr hc2
      cases hlr : longR (f.drop u) with
      | none =>
       have HL := Lib.hid hlr
       clear hlr
       simp only [longU]
       have z0 : w2.frozen? ⟨w.heap.size, 0, none⟩ = false := hb2.free 0
       have z1 : w2.frozen? ⟨w.heap.size, 1, none⟩ = false := hb2.free 1
       have z2 : w2.frozen? ⟨w.heap.size, 2, none⟩ = false := hb2.free 2
       have z3 : w2.frozen? ⟨w.heap.size, 3, none⟩ = false := hb2.free 3
       have z4 : w2.frozen? ⟨w.heap.size, 4, none⟩ = false := hb2.free 4
       have z5 : w2.frozen? ⟨w.heap.size, 5, none⟩ = false := hb2.free 5
       have z6 : w2.frozen? ⟨w.heap.size, 6, none⟩ = false := hb2.free 6
       have y0 : w2.cell? ⟨w.heap.size, 0, none⟩ = some (.int .i64 (0)) := hb2.cell 0
       have y1 : w2.cell? ⟨w.heap.size, 1, none⟩ = some (.string ⟨#[]⟩) := hb2.cell 1
       have y2 : w2.cell? ⟨w.heap.size, 2, none⟩ = some (.int .i64 (0)) := hb2.cell 2
       have y3 : w2.cell? ⟨w.heap.size, 3, none⟩ = some (.int .i64 (0)) := hb2.cell 3
       have y4 : w2.cell? ⟨w.heap.size, 4, none⟩ = some (.slice none 0 0) := hb2.cell 4
       have y5 : w2.cell? ⟨w.heap.size, 5, none⟩ = some (.slice none 0 0) := hb2.cell 5
       have y6 : w2.cell? ⟨w.heap.size, 6, none⟩ = some (.int .i64 (0)) := hb2.cell 6
       go_wp2_with fail
       rw [HQ.out]
       have hbE := store7 hb2 (.int .i64 (0)) (.string ⟨#[]⟩) (.int .i64 (0)) (.int .i64 (0)) (.slice none 0 0) (.slice none 0 0) (.int .i64 (0))
       have hsE := store7_chg w2 (w.heap.size) (.int .i64 (0)) (.string ⟨#[]⟩) (.int .i64 (0)) (.int .i64 (0)) (.slice none 0 0) (.slice none 0 0) (.int .i64 (0))
       have hcE := hc02.trans hsE (fun i e => .inr (by have e : i = w.heap.size := e; omega))
       generalize World.setCell (World.setCell (World.setCell (World.setCell (World.setCell (World.setCell (World.setCell w2 ⟨w.heap.size, 0, none⟩ (.int .i64 (0))) ⟨w.heap.size, 1, none⟩ (.string ⟨#[]⟩)) ⟨w.heap.size, 2, none⟩ (.int .i64 (0))) ⟨w.heap.size, 3, none⟩ (.int .i64 (0))) ⟨w.heap.size, 4, none⟩ (.slice none 0 0)) ⟨w.heap.size, 5, none⟩ (.slice none 0 0)) ⟨w.heap.size, 6, none⟩ (.int .i64 (0)) = wE at hbE hsE hcE ⊢
       have n0 : wE.cell? ⟨w.heap.size, 0, none⟩ = some (.int .i64 (0)) := hbE.cell 0
       have n1 : wE.cell? ⟨w.heap.size, 1, none⟩ = some (.string ⟨#[]⟩) := hbE.cell 1
       have n2 : wE.cell? ⟨w.heap.size, 2, none⟩ = some (.int .i64 (0)) := hbE.cell 2
       have n3 : wE.cell? ⟨w.heap.size, 3, none⟩ = some (.int .i64 (0)) := hbE.cell 3
       have n4 : wE.cell? ⟨w.heap.size, 4, none⟩ = some (.slice none 0 0) := hbE.cell 4
       have n5 : wE.cell? ⟨w.heap.size, 5, none⟩ = some (.slice none 0 0) := hbE.cell 5
       have n6 : wE.cell? ⟨w.heap.size, 6, none⟩ = some (.int .i64 (0)) := hbE.cell 6
       refine bodyPost_ret (v := .tuple #[zeroFt, .int .i64 1]) (by first | exact resOpenOf rfl rfl n0 n1 n2 n3 n4 n5 n6 | exact resOpen rfl rfl n0 n1 n2 n3 n4 n5 n6) rfl ?_
       rw [open_ent Hf.out (by rw [Hres.out, ent_long Hl.out H.out HL.out])]
       exact ⟨hcE, rfl⟩
      | some p =>
       obtain ⟨x, j⟩ := p
       obtain ⟨d1, d2, d3, d4⟩ := longR_some hlr
       rw [List.length_drop] at d2
       have HL := Lib.hid hlr
       clear hlr
       have hj1 : ((j : Int) == 0) = false := by simp; omega
       simp only [longU]
       have hk0 : (u : Int) + (j : Int) ≤ (f.length : Int) := by omega
       by_cases h2 : 2 < k
       ·have h2' : (2 : Int) < (k : Int) := by omega
        go_wp2_with fail
        go_roundw
        case rel =>
         exact ⟨f.drop (u + j), t, g, m, seen, by rw [extL], rfl, rfl, rfl, by rw [List.length_drop]; omega, by rw [List.length_drop, Hfl.out]; omega, hseen, ht, hg, by rw [Hfl.out, Hres.out, ent_more Hl.out H.out HL.out h2], hcw2⟩
        case measure =>
         simp only [strL]
         rw [extL, siz_list, siz_list, List.length_drop]
         omega
       ·have h2' : (k : Int) ≤ 2 := by omega
        by_cases hns : k = seen + 1
        ·have hcase : (k = 1 ∧ seen = 0) ∨ (k = 2 ∧ seen = 1) := by omega
         rcases hcase with ⟨hn1, hs0⟩ | ⟨hn1, hs0⟩
         ·subst hn1 hs0
          clear b1 hns hn hn' h2 h2' hseen
          go_wp2_with fail
          go_roundw
          case rel =>
           exact ⟨f.drop (u + j), x, g, m, 1, by rw [extL], rfl, rfl, rfl, by rw [List.length_drop]; omega, by rw [List.length_drop, Hfl.out]; omega, by omega, d3, hg, by rw [Hfl.out, Hres.out, ent_one Hl.out H.out HL.out], hcw2⟩
          case measure =>
           simp only [strL]
           rw [extL, siz_list, siz_list, List.length_drop]
           omega
         ·subst hn1 hs0
          clear b1 hns hn hn' h2 h2' hseen
          go_wp2_with fail
          go_roundw
          case rel =>
           exact ⟨f.drop (u + j), t, x, m, 2, by rw [extL], rfl, rfl, rfl, by rw [List.length_drop]; omega, by rw [List.length_drop, Hfl.out]; omega, by omega, ht, d3, by rw [Hfl.out, Hres.out, ent_two Hl.out H.out HL.out], hcw2⟩
          case measure =>
           simp only [strL]
           rw [extL, siz_list, siz_list, List.length_drop]
           omega
        ·have hns' : ((k : Int) != (seen : Int) + 1) = true := by simp; omega
         have Hns := Lib.hid hns
         clear hns
         have z0 : w2.frozen? ⟨w.heap.size, 0, none⟩ = false := hb2.free 0
         have z1 : w2.frozen? ⟨w.heap.size, 1, none⟩ = false := hb2.free 1
         have z2 : w2.frozen? ⟨w.heap.size, 2, none⟩ = false := hb2.free 2
         have z3 : w2.frozen? ⟨w.heap.size, 3, none⟩ = false := hb2.free 3
         have z4 : w2.frozen? ⟨w.heap.size, 4, none⟩ = false := hb2.free 4
         have z5 : w2.frozen? ⟨w.heap.size, 5, none⟩ = false := hb2.free 5
         have z6 : w2.frozen? ⟨w.heap.size, 6, none⟩ = false := hb2.free 6
         have y0 : w2.cell? ⟨w.heap.size, 0, none⟩ = some (.int .i64 (0)) := hb2.cell 0
         have y1 : w2.cell? ⟨w.heap.size, 1, none⟩ = some (.string ⟨#[]⟩) := hb2.cell 1
         have y2 : w2.cell? ⟨w.heap.size, 2, none⟩ = some (.int .i64 (0)) := hb2.cell 2
         have y3 : w2.cell? ⟨w.heap.size, 3, none⟩ = some (.int .i64 (0)) := hb2.cell 3
         have y4 : w2.cell? ⟨w.heap.size, 4, none⟩ = some (.slice none 0 0) := hb2.cell 4
         have y5 : w2.cell? ⟨w.heap.size, 5, none⟩ = some (.slice none 0 0) := hb2.cell 5
         have y6 : w2.cell? ⟨w.heap.size, 6, none⟩ = some (.int .i64 (0)) := hb2.cell 6
         go_wp2_with fail
         rw [HQ.out]
         have hbE := store7 hb2 (.int .i64 (0)) (.string ⟨#[]⟩) (.int .i64 (0)) (.int .i64 (0)) (.slice none 0 0) (.slice none 0 0) (.int .i64 (0))
         have hsE := store7_chg w2 (w.heap.size) (.int .i64 (0)) (.string ⟨#[]⟩) (.int .i64 (0)) (.int .i64 (0)) (.slice none 0 0) (.slice none 0 0) (.int .i64 (0))
         have hcE := hc02.trans hsE (fun i e => .inr (by have e : i = w.heap.size := e; omega))
         generalize World.setCell (World.setCell (World.setCell (World.setCell (World.setCell (World.setCell (World.setCell w2 ⟨w.heap.size, 0, none⟩ (.int .i64 (0))) ⟨w.heap.size, 1, none⟩ (.string ⟨#[]⟩)) ⟨w.heap.size, 2, none⟩ (.int .i64 (0))) ⟨w.heap.size, 3, none⟩ (.int .i64 (0))) ⟨w.heap.size, 4, none⟩ (.slice none 0 0)) ⟨w.heap.size, 5, none⟩ (.slice none 0 0)) ⟨w.heap.size, 6, none⟩ (.int .i64 (0)) = wE at hbE hsE hcE ⊢
         have n0 : wE.cell? ⟨w.heap.size, 0, none⟩ = some (.int .i64 (0)) := hbE.cell 0
         have n1 : wE.cell? ⟨w.heap.size, 1, none⟩ = some (.string ⟨#[]⟩) := hbE.cell 1
         have n2 : wE.cell? ⟨w.heap.size, 2, none⟩ = some (.int .i64 (0)) := hbE.cell 2
         have n3 : wE.cell? ⟨w.heap.size, 3, none⟩ = some (.int .i64 (0)) := hbE.cell 3
         have n4 : wE.cell? ⟨w.heap.size, 4, none⟩ = some (.slice none 0 0) := hbE.cell 4
         have n5 : wE.cell? ⟨w.heap.size, 5, none⟩ = some (.slice none 0 0) := hbE.cell 5
         have n6 : wE.cell? ⟨w.heap.size, 6, none⟩ = some (.int .i64 (0)) := hbE.cell 6
         refine bodyPost_ret (v := .tuple #[zeroFt, .int .i64 1]) (by first | exact resOpenOf rfl rfl n0 n1 n2 n3 n4 n5 n6 | exact resOpen rfl rfl n0 n1 n2 n3 n4 n5 n6) rfl ?_
         rw [open_ent Hf.out (by rw [Hres.out, ent_order Hl.out H.out HL.out (by omega) Hns.out])]
         exact ⟨hcE, rfl⟩
    --DEV}
end Go.Proofs.YtkchmgjmecojcaaGreatDoor
