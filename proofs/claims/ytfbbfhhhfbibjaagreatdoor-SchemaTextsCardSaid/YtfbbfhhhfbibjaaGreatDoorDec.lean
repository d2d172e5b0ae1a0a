/-
  shredcolref1.Byte, below, Decimal: a number's digits; shredcolref2.repWord, kindWord.
-/
import Derived.Test.YtfbbfhhhfbibjaaGreatDoorText
import Derived.Lib.ItoaMem
import Derived.Lib.ItoaLen
import Derived.Laws.IdiomStrings
namespace Go.Proofs.YtfbbfhhhfbibjaaGreatDoor
open Go.RowKit

set_option maxRecDepth 100000 in
theorem byte_any (k : Int) (w : World) (h0 : 0 ≤ k) (h : k ≤ 255) : Calls Tryz.prog 117 #[.int .i64 k] w (RetV (.string ⟨#[UInt8.ofNat k.toNat]⟩) w) := by
  obtain ⟨n, rfl⟩ := Int.eq_ofNat_of_zero_le h0
  rw [Int.toNat_natCast]
  have hconv : (convert 74 9 (.slice (some ⟨w.heap.size, 0, none⟩) 1 1)).run Tryz.prog (w.alloc (.cells #[.int .u8 (n : Nat)] 5)) = .ok (.string ⟨#[UInt8.ofNat n]⟩) (w.alloc (.cells #[.int .u8 (n : Nat)] 5)) := by
    refine run_convert_bytes_back _ _ _ 5 ⟨w.heap.size, 0, none⟩ 1 [UInt8.ofNat n] Tryz.underlying74 Tryz.underlying5 Tryz.underlying9 fun j hj => ?_
    obtain rfl : j = 0 := by simp at hj; omega
    have h1 : (n : Int) = ((UInt8.ofNat n).toNat : Int) := by simp; omega
    have h2 := World.cell?_alloc_mark w #[.int .u8 (n : Nat)] 5 (0, 0) 0
    show World.cell? _ ⟨w.heap.size, 0 + 0, none⟩ = _
    rw [show (0 + 0 : Nat) = 0 from rfl, h2, List.getElem_cons_zero, ← h1]
    rfl
  go_enter Tryz.func117, Tryz.ntmps117
  go_wp2_with fail
  generalize hw1 : w.alloc _ = w1
  have hc1 : Chg NoB w w1 := by
    rw [← hw1]
    repeat (first | exact Chg.refl _ _ | apply Chg.alloc | apply Chg.drew)
  go_ret
  exact ⟨rfl, hc1⟩

theorem bapp (a b : List UInt8) : ((⟨a.toArray⟩ : ByteArray) ++ (⟨b.toArray⟩ : ByteArray)) = ⟨(a ++ b).toArray⟩ := by
  apply ByteArray.ext
  simp
theorem bapp1 (a b : ByteArray) : a ++ b = ⟨(a.data.toList ++ b.data.toList).toArray⟩ := by
  have := bapp a.data.toList b.data.toList
  simpa using this
theorem dec_len (u : Nat) (h : u ≤ 9223372036854775808) : (Lib.decDigits u).length ≤ 30 := by
  rw [Lib.decDigits_length]
  have := Lib.nDigits_le20 u (by omega)
  omega
set_option maxRecDepth 100000 in
theorem below_any : ∀ (u : Nat) (w : World), u ≤ 9223372036854775808 → Calls Tryz.prog 103 #[.int .i64 (-(u : Int))] w (RetV (.string ⟨(Lib.decDigits u).toArray⟩) w) := by
  have he := enters_of Tryz.func103 (P := Tryz.prog) (by kernel_rfl) rfl
  intro u
  induction u using Nat.strongRecOn with
  | ind u ih =>
    intro w hu
    have Hih := Lib.hid ih
    clear ih
    by_cases h : u < 10
    · have hd : Lib.decDigits u = [UInt8.ofNat (48 + u)] := Lib.decDigits_one h
      have Hd := Lib.hid hd
      clear hd
      go_enter Tryz.func103, Tryz.ntmps103
      go_wp2_with fail
      refine (byte_any _ w (by omega) (by omega)).mono ?_
      rintro en w1 ⟨rfl, hc1⟩
      go_wp2_with fail
      go_ret
      refine ⟨?_, hc1⟩
      rw [Hd.out]
      rfl
    · have hd : Lib.decDigits u = Lib.decDigits (u / 10) ++ [UInt8.ofNat (48 + u % 10)] := by rw [Lib.decDigits, dif_neg h]
      have Hd := Lib.hid hd
      clear hd
      go_enter Tryz.func103, Tryz.ntmps103
      go_wp2_with fail
      rw [show (-((u : Int) / 10)) = -((u / 10 : Nat) : Int) by omega]
      refine (Hih.out (u / 10) (by omega) w (by omega)).mono ?_
      rintro en w1 ⟨rfl, hc1⟩
      go_wp2_with fail
      refine (byte_any _ w1 (by omega) (by omega)).mono ?_
      rintro en w2 ⟨rfl, hc2⟩
      have hl : (Lib.decDigits (u / 10)).length ≤ 30 := dec_len _ (by omega)
      go_wp2_with fail
      go_ret
      refine ⟨?_, hc1.tr hc2⟩
      rw [Hd.out, ← bapp]
      rfl

set_option maxRecDepth 100000 in
theorem decimal_any (n : Int) (w : World) (h : I64 n) : Calls Tryz.prog 76 #[.int .i64 n] w (RetV (.string ⟨(Lib.itoa n).toArray⟩) w) := by
  obtain ⟨h1, h2⟩ := h
  by_cases hn : n < 0
  · obtain ⟨u, rfl⟩ : ∃ u : Nat, n = -(u : Int) := ⟨n.natAbs, by omega⟩
    have hd := Lib.itoa_neg u (by omega)
    rw [show (45 :: Lib.decDigits u) = [45] ++ Lib.decDigits u from rfl, ] at hd
    have Hd := Lib.hid hd
    clear hd
    go_enter Tryz.func76, Tryz.ntmps76
    go_wp2_with fail
    refine (below_any u w (by omega)).mono ?_
    rintro en w1 ⟨rfl, hc1⟩
    have hl : (Lib.decDigits u).length ≤ 30 := dec_len _ (by omega)
    go_wp2_with fail
    go_ret
    refine ⟨?_, hc1⟩
    rw [Hd.out, ← bapp]
    rfl
  · obtain ⟨u, rfl⟩ : ∃ u : Nat, n = (u : Int) := ⟨n.toNat, by omega⟩
    have Hd := Lib.hid (Lib.itoa_nonneg u)
    go_enter Tryz.func76, Tryz.ntmps76
    go_wp2_with fail
    refine (below_any u w (by omega)).mono ?_
    rintro en w1 ⟨rfl, hc1⟩
    go_wp2_with fail
    go_ret
    refine ⟨?_, hc1⟩
    rw [Hd.out]
    rfl

set_option maxRecDepth 100000 in
theorem repWord_any (r : Nat) (s : ByteArray) (w : World) (h1 : 1 ≤ r) (h : repT[r]? = some s) : Calls Tryz.prog 74 #[.int .i64 (r : Int)] w (RetV (.string s) w) := by
  have hr : r < 4 := (List.getElem?_eq_some_iff.1 h).1
  have h3 : r = 1 ∨ r = 2 ∨ r = 3 := by omega
  rcases h3 with rfl | rfl | rfl
  all_goals
    obtain rfl := Option.some.inj h
    go_enter Tryz.func74, Tryz.ntmps74
    go_wp2_with fail
    go_ret
    exact ⟨rfl, Chg.refl _ _⟩
set_option maxRecDepth 100000 in
theorem kindWord_any (r : Nat) (s : ByteArray) (w : World) (h : kindT[r]? = some s) : Calls Tryz.prog 75 #[.int .i64 (r : Int)] w (RetV (.string s) w) := by
  have hr : r < 6 := (List.getElem?_eq_some_iff.1 h).1
  have h3 : r = 0 ∨ r = 1 ∨ r = 2 ∨ r = 3 ∨ r = 4 ∨ r = 5 := by omega
  rcases h3 with rfl | rfl | rfl | rfl | rfl | rfl
  all_goals
    obtain rfl := Option.some.inj h
    go_enter Tryz.func75, Tryz.ntmps75
    go_wp2_with fail
    go_ret
    exact ⟨rfl, Chg.refl _ _⟩
end Go.Proofs.YtfbbfhhhfbibjaaGreatDoor
