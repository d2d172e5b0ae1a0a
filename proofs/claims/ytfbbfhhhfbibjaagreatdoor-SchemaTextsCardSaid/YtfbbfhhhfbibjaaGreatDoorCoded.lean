/-
  shredcollaw2.coded and isNode.
-/
import Derived.Test.YtfbbfhhhfbibjaaGreatDoorCode
import Derived.Test.YtfbbfhhhfbibjaaGreatDoorSameNode
import Derived.Test.YtfbbfhhhfbibjaaGreatDoorFind
namespace Go.Proofs.YtfbbfhhhfbibjaaGreatDoor
open Go.RowKit

set_option maxHeartbeats 400000 in
theorem coded_any (v : Value) (n at' c : Int) (w : World) (A : Nat → Addr) (hS : Sents w A) (ht : Told w A v n at') (_hn : -2 ≤ n ∧ n ≤ 100) (hc : -2 ≤ c ∧ c ≤ 100) :
    Calls Tryz.prog 13 #[v, .int .i64 c] w (RetV (.bool (decide (n = c) && decide (at' = -1))) w) := by
  go_enter Tryz.func13, Tryz.ntmps13
  go_wp2_with fail
  refine (code_any v n at' w A hS ht).mono ?_
  rintro en w1 ⟨rfl, hc1⟩
  by_cases h1 : n = c
  · subst h1
    by_cases h2 : at' = -1
    · subst h2
      go_wp2_with fail
      go_ret
      exact ⟨by simp, hc1⟩
    · have h2' : (at' == -1) = false := by simpa using h2
      have H2 := Lib.hid h2
      clear h2
      go_wp2_with fail
      go_ret
      exact ⟨by simp [H2.out], hc1⟩
  · have h1' : (n == c) = false := by simpa using h1
    have H1 := Lib.hid h1
    clear h1
    go_wp2_with fail
    go_ret
    exact ⟨by simp [H1.out], hc1⟩
end Go.Proofs.YtfbbfhhhfbibjaaGreatDoor
