/-
  data.bare, enc.OK: what is set of a datum; is a value one of a kind?
-/
import Derived.Test.YtgcmfpcgmkkobaaGreatDoorSameData
set_option linter.unusedVariables false
set_option maxHeartbeats 20000000
set_option maxRecDepth 100000
set_option linter.unusedSimpArgs false
namespace Go.Proofs.YtgcmfpcgmkkobaaGreatDoor
open Go.RowKit
def zeroV (k n : Int) (s : ByteArray) : Bool := decide (k = 0 ∧ n = 0 ∧ s = ⟨#[]⟩)
theorem bytes_ne {s : ByteArray} (h : ¬ s = ⟨#[]⟩) : ¬ s.toList = [] := by
 intro e
 rw [ByteArray.toList_eq] at e
 apply h
 obtain ⟨a⟩ := s
 have e : a.toList = [] := e
 rw [Array.toList_eq_nil_iff.1 e]
def bareF (no : Bool) (k n : Int) (s : ByteArray) (l f : Nat) (a b c e : Bool) : Bool := (a || !no) && (b || zeroV k n s) && (c || l == 0) && (e || f == 0)
theorem bare_1000 (no : Bool) (k n : Int) (s : ByteArray) (al af : Option Addr) (l cl f cf : Nat) (w : World) :
  Calls Tryz.prog 75 #[.agg #[.bool no, .int .i64 k, .int .i64 n, .string s, .slice al l cl, .slice af f cf], .bool true, .bool false, .bool false, .bool false] w (RetV (.bool (bareF no k n s l f true false false false)) w) := by
 go_enter Tryz.func75, Tryz.ntmps75
 by_cases hk : k = 0
 case neg =>
  go_wp2_with fail
  go_ret
  refine ⟨?_, (Chg.refl _ _).alloc _⟩
  simp [bareF, zeroV, *]
 subst hk
 by_cases hn : n = 0
 case neg =>
  go_wp2_with fail
  go_ret
  refine ⟨?_, (Chg.refl _ _).alloc _⟩
  simp [bareF, zeroV, *]
 subst hn
 by_cases hs : s = ⟨#[]⟩
 case neg =>
  have hs2 := bytes_ne hs
  go_wp2_with fail
  go_ret
  refine ⟨?_, (Chg.refl _ _).alloc _⟩
  simp [bareF, zeroV, *]
 subst hs
 by_cases hl : l = 0
 case neg =>
  have hI : ¬ ((l : Int) = 0) := by omega
  have hI2 : ((l : Int) == 0) = false := by simpa using hI
  go_wp2_with fail
  go_ret
  refine ⟨?_, (Chg.refl _ _).alloc _⟩
  simp [bareF, zeroV, *]
 subst hl
 by_cases hf : f = 0
 case neg =>
  have hI : ¬ ((f : Int) = 0) := by omega
  have hI2 : ((f : Int) == 0) = false := by simpa using hI
  go_wp2_with fail
  go_ret
  refine ⟨?_, (Chg.refl _ _).alloc _⟩
  simp [bareF, zeroV, *]
 subst hf
 go_wp2_with fail
 go_ret
 refine ⟨?_, (Chg.refl _ _).alloc _⟩
 simp [bareF, zeroV, *]
theorem bare_0010 (no : Bool) (k n : Int) (s : ByteArray) (al af : Option Addr) (l cl f cf : Nat) (w : World) :
  Calls Tryz.prog 75 #[.agg #[.bool no, .int .i64 k, .int .i64 n, .string s, .slice al l cl, .slice af f cf], .bool false, .bool false, .bool true, .bool false] w (RetV (.bool (bareF no k n s l f false false true false)) w) := by
 go_enter Tryz.func75, Tryz.ntmps75
 cases no with
 | true =>
  go_wp2_with fail
  go_ret
  refine ⟨?_, (Chg.refl _ _).alloc _⟩
  simp [bareF, zeroV, *]
 | false =>
 by_cases hk : k = 0
 case neg =>
  go_wp2_with fail
  go_ret
  refine ⟨?_, (Chg.refl _ _).alloc _⟩
  simp [bareF, zeroV, *]
 subst hk
 by_cases hn : n = 0
 case neg =>
  go_wp2_with fail
  go_ret
  refine ⟨?_, (Chg.refl _ _).alloc _⟩
  simp [bareF, zeroV, *]
 subst hn
 by_cases hs : s = ⟨#[]⟩
 case neg =>
  have hs2 := bytes_ne hs
  go_wp2_with fail
  go_ret
  refine ⟨?_, (Chg.refl _ _).alloc _⟩
  simp [bareF, zeroV, *]
 subst hs
 by_cases hf : f = 0
 case neg =>
  have hI : ¬ ((f : Int) = 0) := by omega
  have hI2 : ((f : Int) == 0) = false := by simpa using hI
  go_wp2_with fail
  go_ret
  refine ⟨?_, (Chg.refl _ _).alloc _⟩
  simp [bareF, zeroV, *]
 subst hf
 go_wp2_with fail
 go_ret
 refine ⟨?_, (Chg.refl _ _).alloc _⟩
 simp [bareF, zeroV, *]
theorem bare_0100 (no : Bool) (k n : Int) (s : ByteArray) (al af : Option Addr) (l cl f cf : Nat) (w : World) :
  Calls Tryz.prog 75 #[.agg #[.bool no, .int .i64 k, .int .i64 n, .string s, .slice al l cl, .slice af f cf], .bool false, .bool true, .bool false, .bool false] w (RetV (.bool (bareF no k n s l f false true false false)) w) := by
 go_enter Tryz.func75, Tryz.ntmps75
 cases no with
 | true =>
  go_wp2_with fail
  go_ret
  refine ⟨?_, (Chg.refl _ _).alloc _⟩
  simp [bareF, zeroV, *]
 | false =>
 by_cases hl : l = 0
 case neg =>
  have hI : ¬ ((l : Int) = 0) := by omega
  have hI2 : ((l : Int) == 0) = false := by simpa using hI
  go_wp2_with fail
  go_ret
  refine ⟨?_, (Chg.refl _ _).alloc _⟩
  simp [bareF, zeroV, *]
 subst hl
 by_cases hf : f = 0
 case neg =>
  have hI : ¬ ((f : Int) = 0) := by omega
  have hI2 : ((f : Int) == 0) = false := by simpa using hI
  go_wp2_with fail
  go_ret
  refine ⟨?_, (Chg.refl _ _).alloc _⟩
  simp [bareF, zeroV, *]
 subst hf
 go_wp2_with fail
 go_ret
 refine ⟨?_, (Chg.refl _ _).alloc _⟩
 simp [bareF, zeroV, *]
theorem bare_0001 (no : Bool) (k n : Int) (s : ByteArray) (al af : Option Addr) (l cl f cf : Nat) (w : World) :
  Calls Tryz.prog 75 #[.agg #[.bool no, .int .i64 k, .int .i64 n, .string s, .slice al l cl, .slice af f cf], .bool false, .bool false, .bool false, .bool true] w (RetV (.bool (bareF no k n s l f false false false true)) w) := by
 go_enter Tryz.func75, Tryz.ntmps75
 cases no with
 | true =>
  go_wp2_with fail
  go_ret
  refine ⟨?_, (Chg.refl _ _).alloc _⟩
  simp [bareF, zeroV, *]
 | false =>
 by_cases hk : k = 0
 case neg =>
  go_wp2_with fail
  go_ret
  refine ⟨?_, (Chg.refl _ _).alloc _⟩
  simp [bareF, zeroV, *]
 subst hk
 by_cases hn : n = 0
 case neg =>
  go_wp2_with fail
  go_ret
  refine ⟨?_, (Chg.refl _ _).alloc _⟩
  simp [bareF, zeroV, *]
 subst hn
 by_cases hs : s = ⟨#[]⟩
 case neg =>
  have hs2 := bytes_ne hs
  go_wp2_with fail
  go_ret
  refine ⟨?_, (Chg.refl _ _).alloc _⟩
  simp [bareF, zeroV, *]
 subst hs
 by_cases hl : l = 0
 case neg =>
  have hI : ¬ ((l : Int) = 0) := by omega
  have hI2 : ((l : Int) == 0) = false := by simpa using hI
  go_wp2_with fail
  go_ret
  refine ⟨?_, (Chg.refl _ _).alloc _⟩
  simp [bareF, zeroV, *]
 subst hl
 go_wp2_with fail
 go_ret
 refine ⟨?_, (Chg.refl _ _).alloc _⟩
 simp [bareF, zeroV, *]
end Go.Proofs.YtgcmfpcgmkkobaaGreatDoor
