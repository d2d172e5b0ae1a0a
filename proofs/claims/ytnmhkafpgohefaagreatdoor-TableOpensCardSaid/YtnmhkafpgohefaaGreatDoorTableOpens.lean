/-
  shredcollaw4.TableOpens.
-/
import Derived.Test.YtnmhkafpgohefaaGreatDoorTabOpen
import Derived.Test.YtnmhkafpgohefaaGreatDoorCreate
import Derived.Test.YtnmhkafpgohefaaGreatDoorSevLaw
set_option linter.unusedVariables false
set_option maxHeartbeats 20000000
set_option maxRecDepth 100000
set_option linter.unusedSimpArgs false
namespace Go.Proofs.YtnmhkafpgohefaaGreatDoor
open Go.RowKit Go.Maps
theorem opensL_any (name : ByteArray) (l : List UInt8) (w : World) (A : Nat → Addr) (E : Er → Value) (N K : Value) (m : Int) (hG : EvG w.heap.size E N K m w) (hS : Sents w A) (hW : Lib.WhiteTab 10 w) :
  Calls Tryz.prog 3 #[.string name, .string ⟨l.toArray⟩] w (RetV (.bool true) w) := by
 have hsz : (⟨l.toArray⟩ : ByteArray).size = l.length := siz_list l
 have Hsz := Lib.hid hsz
 have HG := Lib.hid (fun (w' : World) (hc : Chg NoB w w') => (hG.keep0 hc).up hc.size)
 have HS := Lib.hid (fun (w' : World) (hc : Chg NoB w w') => hS.keep0 hc)
 have HW := Lib.hid (fun (w' : World) (hc : Chg NoB w w') => white_keep hW hc)
 have Hcode := Lib.hid (show ∀ (w' : World) (i : Nat) (c : Int), i < 8 → Chg NoB w w' → -2 ≤ c ∧ c ≤ 100 → Calls Tryz.prog 7 #[sv (A i), .int .i64 c] w' (RetV (.bool (decide ((i : Int) + 1 = c))) w') from fun w' i c hi hc h1 => by
  have h := coded4_any (sv (A i)) ((i : Int) + 1) (-1) c w' A (hS.keep0 hc) (Told.sent i hi) (by omega) h1
  rwa [show (decide ((i : Int) + 1 = c) && decide ((-1 : Int) = -1)) = decide ((i : Int) + 1 = c) from by simp] at h)
 have Hmade := Lib.hid (made_any w A E N K m hG hS)
 clear hG hS hW hsz
 go_enter Tryz.func3, Tryz.ntmps3
 go_wp2_with fail
 refine Hmade.out.mono ?_
 rintro en w1 ⟨rfl, hc1⟩
 by_cases hn : 100 < name.size
 ·have hnI : (100 : Int) < (name.size : Int) := by omega
  go_wp2_with fail
  go_ret
  exact ⟨rfl, hc1⟩
 have hnI : ¬ (100 : Int) < (name.size : Int) := by omega
 by_cases hl : 500 < l.length
 ·have hlI : (500 : Int) < ((⟨l.toArray⟩ : ByteArray).size : Int) := by rw [Hsz.out]; omega
  go_wp2_with fail
  go_ret
  exact ⟨rfl, hc1⟩
 have hlI : ¬ (500 : Int) < ((⟨l.toArray⟩ : ByteArray).size : Int) := by rw [Hsz.out]; omega
 go_wp2_with fail
 refine (newD_any w1).mono ?_
 rintro en w2 ⟨rfl, hm2, hd2, hc2⟩
 have hc02 := hc1.tr hc2
 have hz1 := hc1.size
 obtain ⟨mb, hmb⟩ : ∃ z, z = w1.heap.size := ⟨_, rfl⟩
 obtain ⟨db, hdb⟩ : ∃ z, z = w1.heap.size + 1 := ⟨_, rfl⟩
 rw [← hdb, ← hmb] at hd2
 rw [← hmb] at hm2
 rw [← hdb]
 have hnew : w.heap.size ≤ db ∧ w.heap.size ≤ mb := ⟨by omega, by omega⟩
 have hdm : db ≠ mb := by omega
 clear hmb hdb hnI hlI
 go_wp2_with fail
 refine (open_none db mb 0 noneD w2 0 0 A (HS.out w2 hc02) hd2 hm2 rfl).mono ?_
 rintro en w3 ⟨rfl, hc3⟩
 have hd3 := hd2.keep hc3 nbE
 have hm3 := hm2.keep hc3 nbE
 have hc03 := hc02.tr hc3
 have H5 := Lib.hid (Hcode.out w3 5 6 (by decide) hc03 (by decide))
 rw [show decide (((5 : Nat) : Int) + 1 = 6) = true from by decide] at H5
 simp only [sv] at H5 ⊢
 go_wp2_with fail
 refine H5.out.mono ?_
 rintro en w4 ⟨rfl, hc4⟩
 have hd4 := hd3.keep hc4 nbE
 have hm4 := hm3.keep hc4 nbE
 have hc04 := hc03.tr hc4
 have hns : name.size ≤ maxLen := by unfold maxLen; omega
 clear H5 hd2 hd3 hm2 hm3 hc1 hc2 hc3 hc02 hc03
 go_wp2_with fail
 cases hok : nameD name with
 | false =>
  have Ha := Lib.hid (appendD_bad db mb 0 noneD name ⟨l.toArray⟩ w4 0 0 A hd4 hm4 hns hok (HS.out w4 hc04))
  simp only [sv] at Ha
  refine Ha.out.mono ?_
  rintro en w5 ⟨rfl, hc5⟩
  go_wp2_with fail
  go_ret
  exact ⟨rfl, hc04.tr hc5⟩
 | true =>
  by_cases hl0 : l = []
  ·subst hl0
   refine (appendD_none db mb 0 noneD name w4 0 0 hd4 hm4 hns hok).mono ?_
   rintro en w5 ⟨rfl, hc5⟩
   go_wp2_with fail
   go_ret
   exact ⟨rfl, hc04.tr hc5⟩
  ·refine (appendD_new db mb 0 name l w4 0 hd4 hm4 hns hok hl0 (by omega) (by decide) (by decide) (by decide) hdm).mono ?_
   rintro en w5 ⟨rfl, v, hm5, ho5, hd5, hc5⟩
   have hc05 : Chg NoB w w5 := hc04.trans hc5 (fun b e => .inr (e.elim (fun e => by omega) (fun e => by omega)))
   have hemp : l.isEmpty = false := by simpa using hl0
   have how := own_bytes ho5
   have Hown := Lib.hid ho5
   have Hl0 := Lib.hid hl0
   have Hm5 := Lib.hid hm5
   have Hd5 := Lib.hid hd5
   have hkeep : ∀ w', Chg NoB w5 w' → Blk w' db (dkCells (0 + (l.length : Nat)) l.length mb) 46 ∧ FM w' mb (0 + l.length) (oneD name v) ∧ w'.ownsRow w4.heap.size 5 1 v l.length (Lib.byteCells l) := fun w' hc =>
    ⟨hd5.keep hc nbE, hm5.keep hc nbE, own_bytes (ho5.keep hc (fun _ h => h.elim) (fun _ _ => nbE))⟩
   have Hkeep := Lib.hid hkeep
   clear hkeep hd4 hm4 how hm5 hd5 ho5 hc5 hok
   go_wp2_with fail
   obtain ⟨kd, km, -⟩ := Hkeep.out w5 (Chg.refl _ _)
   refine (create_full db mb (0 + l.length) (oneD name v) w5 _ _ A (HS.out w5 hc05) kd km rfl (by rfl)).mono ?_
   rintro en w6 ⟨rfl, hc6⟩
   have hc06 := hc05.tr hc6
   have H3 := Lib.hid (Hcode.out w6 2 3 (by decide) hc06 (by decide))
   rw [show decide (((2 : Nat) : Int) + 1 = 3) = true from by decide] at H3
   simp only [sv] at H3 ⊢
   clear kd km
   go_wp2_with fail
   refine H3.out.mono ?_
   rintro en w7 ⟨rfl, hc7⟩
   have hc07 := hc06.tr hc7
   have hc57 := hc6.tr hc7
   have Hop := Lib.hid (show Calls Tryz.prog 6 #[.pointer (some ⟨db, 0, none⟩)] w7 (RetOp A w7) from by
    by_cases hr : name = rootBs
    ·subst hr
     refine open_root db l w7 A E N K m (HG.out w7 hc07) (HS.out w7 hc07) (HW.out w7 hc07) (by omega) (fun w' hc => ?_) (fun w' t hc ht => ?_)
     ·obtain ⟨kd, km, ko⟩ := Hkeep.out w' (hc57.tr hc)
      exact readD_hit db mb (0 + l.length) _ rootBs v l w' _ _ kd km hns ko Hl0.out
     ·obtain ⟨kd, km, ko⟩ := Hkeep.out w' (hc57.tr hc)
      by_cases hx : t = rootBs
      ·subst hx
       refine (readD_hit db mb (0 + l.length) _ rootBs v l w' _ _ kd km hns ko Hl0.out).mono ?_
       rintro en w'' ⟨rfl, hc'⟩
       exact ⟨hc', _, _, rfl, .inl rfl⟩
      ·refine (readD_miss db mb (0 + l.length) (oneD rootBs v) t w' _ _ A kd km (by unfold maxLen; omega) (has_one_ne (fun e => hx e.symm) v) (HS.out w' (hc07.tr hc))).mono ?_
       rintro en w'' ⟨rfl, hc'⟩
       exact ⟨hc', _, _, rfl, .inr rfl⟩
    ·obtain ⟨kd, km, ko⟩ := Hkeep.out w7 hc57
     refine (open_none db mb (0 + l.length) (oneD name v) w7 _ _ A (HS.out w7 hc07) kd km (has_one_ne hr v)).mono ?_
     rintro en w'' ⟨rfl, hc'⟩
     exact ⟨hc', .inr (.inl rfl)⟩)
   clear H3
   go_wp2_with fail
   refine Hop.out.mono ?_
   rintro en w8 ⟨hc8, hr8⟩
   have hc08 := hc07.tr hc8
   rcases hr8 with ⟨b, rfl⟩ | rfl | rfl
   ·go_wp2_with fail
    go_ret
    exact ⟨rfl, hc08⟩
   ·have H6 := Lib.hid (Hcode.out w8 5 6 (by decide) hc08 (by decide))
    rw [show decide (((5 : Nat) : Int) + 1 = 6) = true from by decide] at H6
    simp only [sv] at H6 ⊢
    go_wp2_with fail
    refine H6.out.mono ?_
    rintro en w9 ⟨rfl, hc9⟩
    go_wp2_with fail
    go_ret
    exact ⟨rfl, hc08.tr hc9⟩
   ·have H6 := Lib.hid (Hcode.out w8 0 6 (by decide) hc08 (by decide))
    rw [show decide (((0 : Nat) : Int) + 1 = 6) = false from by decide] at H6
    simp only [sv] at H6 ⊢
    go_wp2_with fail
    refine H6.out.mono ?_
    rintro en w9 ⟨rfl, hc9⟩
    have hc09 := hc08.tr hc9
    have H1 := Lib.hid (Hcode.out w9 0 1 (by decide) hc09 (by decide))
    rw [show decide (((0 : Nat) : Int) + 1 = 1) = true from by decide] at H1
    simp only [sv] at H1
    go_wp2_with fail
    refine H1.out.mono ?_
    rintro en w10 ⟨rfl, hc10⟩
    go_wp2_with fail
    go_ret
    exact ⟨rfl, hc09.tr hc10⟩
theorem opens_any (name text : ByteArray) (w : World) (A : Nat → Addr) (E : Er → Value) (N K : Value) (m : Int) (hG : EvG w.heap.size E N K m w) (hS : Sents w A) (hW : Lib.WhiteTab 10 w) :
  Calls Tryz.prog 3 #[.string name, .string text] w (RetV (.bool true) w) := by
 have h := opensL_any name text.data.toList w A E N K m hG hS hW
 have e : (⟨text.data.toList.toArray⟩ : ByteArray) = text := by rw [Array.toArray_toList]
 rwa [e] at h
end Go.Proofs.YtnmhkafpgohefaaGreatDoor
