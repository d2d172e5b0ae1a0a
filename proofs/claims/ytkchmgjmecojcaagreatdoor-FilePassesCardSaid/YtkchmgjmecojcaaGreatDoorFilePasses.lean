/-
  shredcollaw3.FilePasses.
-/
import Derived.Test.YtkchmgjmecojcaaGreatDoorWriteNil
import Derived.Test.YtkchmgjmecojcaaGreatDoorFPass
import Derived.Test.YtkchmgjmecojcaaGreatDoorFPassOf
import Derived.Test.YtkchmgjmecojcaaGreatDoorSumW
set_option linter.unusedVariables false
set_option maxHeartbeats 20000000
set_option maxRecDepth 100000
set_option linter.unusedSimpArgs false
namespace Go.Proofs.YtkchmgjmecojcaaGreatDoor
open Go.RowKit
theorem passesL_any (l : List UInt8) (z : Int) (t : ByteArray) (w : World) (A : Nat → Addr) (E : Er → Value) (N : Value) (hG : Glo w.heap.size E w) (hA : Named w A E N) :
  Calls Tryz.prog 3 #[.string ⟨l.toArray⟩, .int .i64 z, .string t] w (RetV (.bool true) w) := by
 have hsz : (⟨l.toArray⟩ : ByteArray).size = l.length := siz_list l
 go_enter Tryz.func3, Tryz.ntmps3
 go_wp2_with fail
 refine (bareF_any w A E N hG hA).mono ?_
 rintro en w1 ⟨rfl, hc1⟩
 by_cases hs : 6000 < l.length
 ·have hsI : (6000 : Int) < ((⟨l.toArray⟩ : ByteArray).size : Int) := by omega
  go_wp2_with fail
  go_ret
  exact ⟨rfl, hc1⟩
 ·have hsI : ¬ (6000 : Int) < ((⟨l.toArray⟩ : ByteArray).size : Int) := by omega
  by_cases ht : 1000 < t.size
  ·have htI : (1000 : Int) < (t.size : Int) := by omega
   go_wp2_with fail
   go_ret
   exact ⟨rfl, hc1⟩
  ·have htI : ¬ (1000 : Int) < (t.size : Int) := by omega
   go_wp2_with fail
   refine (fPass_any l z t w1 A E N ((hG.keep0 hc1).upTo hc1.size) (hA.keep0 hc1) (by omega) (by omega)).mono ?_
   rintro en w2 ⟨hc2, hm2⟩
   have hc02 := hc1.tr hc2
   cases ho : passF l z t.data.toList with
   | bad e =>
    have hcode := pass_code ho
    rw [ho] at hm2
    have hm2 : en = errS A e := hm2
    subst hm2
    unfold errS
    have hT : Told w2 A (sv (A (e - 1))) ((e - 1 : Nat) + 1 : Int) (-1) := Told.sent (e - 1) (by omega)
    rw [show ((e - 1 : Nat) + 1 : Int) = (e : Int) from by omega] at hT
    have hS2 := (hA.keep0 hc02).sents
    have HC := Lib.hid (show ∀ w3, Chg NoB w2 w3 → Calls Tryz.prog 7 #[sv (A (e - 1)), .int .i64 e] w3 (RetV (.bool true) w3) from fun w3 hc3 => by
     have h := coded3_any (sv (A (e - 1))) e (-1) e w3 A (hS2.keep0 hc3) (told_still hT hc3) (by omega) (by omega)
     rw [show (decide ((e : Int) = e) && decide ((-1 : Int) = -1)) = true from by simp] at h
     exact h)
    have Ho := Lib.hid ho
    have heI : (0 : Int) < (e : Int) := by omega
    clear hT hS2 ho
    go_wp2_with fail
    refine (passOf_any l z t w2 (by omega) (by omega)).mono ?_
    rintro en w3 ⟨hc3, hm3⟩
    rw [Ho.out] at hm3
    have hm3 : en = errJ e := hm3
    subst hm3
    unfold errJ
    have hc03 := hc02.tr hc3
    clear hcode
    go_wp2_with fail
    refine (HC.out w3 hc3).mono ?_
    rintro en w4 ⟨rfl, hc4⟩
    go_wp2_with fail
    go_ret
    exact ⟨rfl, hc03.tr hc4⟩
   | ok o =>
    rw [ho] at hm2
    have hm2 : en = .returned (.tuple #[.string ⟨o.toArray⟩, .nilIface]) := hm2
    subst hm2
    have Ho := Lib.hid ho
    clear ho
    go_wp2_with fail
    refine (passOf_any l z t w2 (by omega) (by omega)).mono ?_
    rintro en w3 ⟨hc3, hm3⟩
    rw [Ho.out] at hm3
    have hm3 : en = .returned (.tuple #[.string ⟨o.toArray⟩, .int .i64 0]) := hm3
    subst hm3
    have hc03 := hc02.tr hc3
    go_wp2_with fail
    go_ret
    exact ⟨rfl, hc03⟩
theorem passes_any (s : ByteArray) (z : Int) (t : ByteArray) (w : World) (A : Nat → Addr) (E : Er → Value) (N : Value) (hG : Glo w.heap.size E w) (hA : Named w A E N) :
  Calls Tryz.prog 3 #[.string s, .int .i64 z, .string t] w (RetV (.bool true) w) := by
 have h := passesL_any s.data.toList z t w A E N hG hA
 rwa [show (⟨s.data.toList.toArray⟩ : ByteArray) = s from by simp] at h
end Go.Proofs.YtkchmgjmecojcaaGreatDoor
