/-
  enc.OK and shredcolref1.IsValue: is a value one of a kind?
-/
import Derived.Test.YtgcmfpcgmkkobaaGreatDoorWordsLaw
set_option linter.unusedVariables false
set_option maxHeartbeats 20000000
set_option maxRecDepth 100000
set_option linter.unusedSimpArgs false
namespace Go.Proofs.YtgcmfpcgmkkobaaGreatDoor
open Go.RowKit
theorem encOK_any (kind k n : Int) (s : ByteArray) (w : World) (hk0 : 1 ≤ kind ∧ kind ≤ 5) (hn0 : I64 n) (hs0 : s.size ≤ reach) :
  Calls Tryz.prog 76 #[.int .i64 kind, .agg #[.int .i64 k, .int .i64 n, .string s]] w (RetV (.bool (okF kind k n s)) w) := by
 obtain ⟨hn1, hn2⟩ := hn0
 obtain ⟨hk1, hk2⟩ := hk0
 unfold reach at hs0
 go_enter Tryz.func76, Tryz.ntmps76
 by_cases hk : k = kind
 case neg =>
  have hkb : (k == kind) = false := by simpa using hk
  go_wp2_with fail
  go_ret
  refine ⟨?_, (Chg.refl _ _).alloc _⟩
  first | (simp [okF, *]; done) | (simp [okF, *]; intros; omega)
 subst hk
 by_cases h4 : k = 4
 ·subst h4
  by_cases hn : n = 0
  ·subst hn
   by_cases hs : (s.size : Int) ≤ 100
   ·have hs' : s.size ≤ 100 := by omega
    go_wp2_with fail
    go_ret
    refine ⟨?_, (Chg.refl _ _).alloc _⟩
    first | (simp [okF, *]; done) | (simp [okF, *]; intros; omega)
   ·have hs' : ¬ s.size ≤ 100 := by omega
    go_wp2_with fail
    go_ret
    refine ⟨?_, (Chg.refl _ _).alloc _⟩
    first | (simp [okF, *]; done) | (simp [okF, *]; intros; omega)
  ·go_wp2_with fail
   go_ret
   refine ⟨?_, (Chg.refl _ _).alloc _⟩
   first | (simp [okF, *]; done) | (simp [okF, *]; intros; omega)
 by_cases h1 : k = 1
 ·subst h1
  by_cases hn : 0 ≤ n ∧ n ≤ 1
  ·obtain ⟨a1, a2⟩ := hn
   by_cases hs : s = ⟨#[]⟩
   ·subst hs
    go_wp2_with fail
    go_ret
    refine ⟨?_, (Chg.refl _ _).alloc _⟩
    first | (simp [okF, *]; done) | (simp [okF, *]; intros; omega)
   ·have hs2 := bytes_ne hs
    go_wp2_with fail
    go_ret
    refine ⟨?_, (Chg.refl _ _).alloc _⟩
    first | (simp [okF, *]; done) | (simp [okF, *]; intros; omega)
  ·go_wp2_with fail
   go_ret
   refine ⟨?_, (Chg.refl _ _).alloc _⟩
   first | (simp [okF, *]; done) | (simp [okF, *]; intros; omega)
 by_cases h2 : k = 2
 ·subst h2
  by_cases hn : -2147483648 ≤ n ∧ n ≤ 2147483647
  ·obtain ⟨a1, a2⟩ := hn
   by_cases hs : s = ⟨#[]⟩
   ·subst hs
    go_wp2_with fail
    go_ret
    refine ⟨?_, (Chg.refl _ _).alloc _⟩
    first | (simp [okF, *]; done) | (simp [okF, *]; intros; omega)
   ·have hs2 := bytes_ne hs
    go_wp2_with fail
    go_ret
    refine ⟨?_, (Chg.refl _ _).alloc _⟩
    first | (simp [okF, *]; done) | (simp [okF, *]; intros; omega)
  ·have hw : n ≠ wrap64 (wrap32 n) := by unfold wrap64 wrap32; omega
   have hwb : (n != wrap64 (wrap32 n)) = true := by simpa using hw
   clear hw
   go_wp2_with fail
   go_ret
   refine ⟨?_, (Chg.refl _ _).alloc _⟩
   first | (simp [okF, *]; done) | (simp [okF, *]; intros; omega)
 have h4b : (k == 4) = false := by simpa using h4
 have h1b : (k == 1) = false := by simpa using h1
 have h2b : (k == 2) = false := by simpa using h2
 by_cases hs : s = ⟨#[]⟩
 ·subst hs
  go_wp2_with fail
  go_ret
  refine ⟨?_, (Chg.refl _ _).alloc _⟩
  first | (simp [okF, *]; done) | (simp [okF, *]; intros; omega)
 ·have hs2 := bytes_ne hs
  go_wp2_with fail
  go_ret
  refine ⟨?_, (Chg.refl _ _).alloc _⟩
  first | (simp [okF, *]; done) | (simp [okF, *]; intros; omega)
end Go.Proofs.YtgcmfpcgmkkobaaGreatDoor
