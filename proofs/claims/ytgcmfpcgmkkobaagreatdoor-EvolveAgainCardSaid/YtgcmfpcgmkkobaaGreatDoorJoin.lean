/-
 strings.Join by single blanks (over a builder whose copyCheck bears a stop: by writeString_any).
-/
import Derived.Test.YtgcmfpcgmkkobaaGreatDoorShelf
import Derived.Test.YtgcmfpcgmkkobaaGreatDoorPackA
set_option linter.unusedVariables false
set_option linter.unusedSimpArgs false
namespace Go.Proofs.YtgcmfpcgmkkobaaGreatDoor
open Go.RowKit

/-- Pieces with a blank ahead of each. -/
def blanks (r : List ByteArray) : List UInt8 := (r.map fun x => (32 : UInt8) :: x.data.toList).flatten
def joinW : List ByteArray → List UInt8
 | [] => []
 | x :: r => x.data.toList ++ blanks r
theorem blanks_snoc (r : List ByteArray) (x : ByteArray) : blanks (r ++ [x]) = blanks r ++ 32 :: x.data.toList := by simp [blanks]
theorem blanks_len : ∀ (r : List ByteArray), (∀ x ∈ r, x.size ≤ 100000) → (blanks r).length ≤ r.length * 100001
 | [], _ => by simp [blanks]
 | x :: r, h => by
  have h1 := h x (List.mem_cons_self ..)
  have h2 := blanks_len r (fun y hy => h y (List.mem_cons_of_mem _ hy))
  have h3 : x.data.toList.length = x.size := Array.length_toList
  have h4 : (blanks (x :: r)).length = x.data.toList.length + 1 + (blanks r).length := by
   unfold blanks
   rw [List.map_cons, List.flatten_cons, List.length_append, List.length_cons]
  rw [h4, List.length_cons, Nat.succ_mul]
  omega
def JoLen (n : Nat) (vn vi : Value) : Prop := ∃ (k m : Nat), k ≤ n ∧ vi = .int .i64 (k : Nat) ∧ vn = .int .i64 (m : Nat) ∧ m ≤ 100000 + k * 100000
def JoRel (B : Nat) (x0 : ByteArray) (r : List ByteArray) (w : World) (vi : Value) (wr : World) : Prop :=
 ∃ k : Nat, k ≤ r.length ∧ vi = .int .i64 (k : Nat) ∧ IsB B B (Lib.byteCells (x0.data.toList ++ blanks (r.take k))) wr ∧ Chg NoB w wr

set_option maxHeartbeats 2000000 in
set_option maxRecDepth 100000 in
theorem join_many (bk o c : Nat) (x0 : ByteArray) (r : List ByteArray) (w : World) (hr1 : 1 ≤ r.length) (hc : ∀ (j : Nat) x, (x0 :: r)[j]? = some x → w.cell? ⟨bk, o + j, none⟩ = some (.string x)) (hbk : bk < w.heap.size) (hn : r.length ≤ 99999) (hcap : r.length + 1 ≤ c)
  (hx : ∀ x ∈ x0 :: r, x.size ≤ 100000) : Calls Tryz.prog 51 #[.slice (some ⟨bk, o, none⟩) (r.length + 1) c, .string ⟨#[32]⟩] w (RetV (.string ⟨(joinW (x0 :: r)).toArray⟩) w) := by
 have Hc := Lib.hid hc
 have Hx := Lib.hid hx
 clear hc hx
 have hdv : ¬ ((9223372036854775807 : Int) / (r.length : Int) ≤ 1) := by
  have h1 : (2 : Int) ≤ 9223372036854775807 / (r.length : Int) := Int.le_ediv_of_mul_le (by omega) (by omega)
  omega
 have hrI : ¬ ((r.length : Int) = 0) := by omega
 go_enter Tryz.func51, Tryz.ntmps51
 go_wp2_with fail
 go_loop [5, 41] (fun vn vi => JoLen (r.length + 1) vn vi) (fun _ vi => r.length + 1 - (intOf vi).toNat)
 case atStart => exact ⟨0, r.length, Nat.zero_le _, rfl, rfl, by omega⟩
 case round =>
  obtain ⟨k, m, hk, rfl, rfl, hm⟩ := hrel
  by_cases hlt : k < r.length + 1
  ·obtain ⟨x, hxk⟩ : ∃ x, (x0 :: r)[k]? = some x := ⟨(x0 :: r)[k], List.getElem?_eq_getElem hlt⟩
   have hcx := Hc.out k x hxk
   have hsz := Hx.out x (List.mem_of_getElem? hxk)
   have hltI : (k : Int) < (r.length : Int) + 1 := by omega
   have hszI : ¬ ((9223372036854775807 : Int) - (m : Int) < (x.size : Int)) := by omega
   clear hxk
   go_wp2_with fail
   refine ⟨⟨k + 1, m + x.size, hlt, by go_num, by go_num, by omega⟩, by simp [intOf]; omega⟩
  ·have hltI : ¬ ((k : Int) < (r.length : Int) + 1) := by omega
   go_wp2_with fail
   refine (Tryz.Builder_Grow_fresh w.heap.size w.heap.size m _ (Nat.le_refl _) (heap_alloc_new w _) (by simp) (by omega)).mono ?_
   rintro en w1 ⟨rfl, hB1, hb1⟩
   have hc1 : Chg NoB w w1 := (Chg.ofBelow ⟨hb1.os, hb1.tape, hb1.output, Nat.le_trans (by simp) hb1.size, fun i hi => (hb1.block i hi).trans (Below.heap_alloc w _ i hi)⟩)
   have hI1 : IsB w.heap.size w.heap.size [] w1 := .inr hB1
   have hc0 : w1.cell? ⟨bk, o, none⟩ = some (.string x0) := (hc1.cell (p := ⟨bk, o, none⟩) hbk NoB.elim).trans (Hc.out 0 x0 rfl)
   have hx0 := Hx.out x0 (List.mem_cons_self ..)
   clear hB1 hb1
   go_wp2_with fail
   refine (writeString_any w.heap.size w.heap.size [] x0 w1 hI1 (by simp; omega) hc1.size).mono ?_
   rintro en w2 ⟨rfl, hI2, hc2⟩
   have hc02 : Chg NoB w w2 := hc1.trans hc2 (fun y e => .inr e.1)
   have hst : ([] : List Value) ++ Lib.strCells x0 = Lib.byteCells (x0.data.toList ++ blanks (r.take 0)) := by simp [blanks, Lib.strCells, Lib.byteCells]
   rw [hst] at hI2
   have HI2 := Lib.hid hI2
   clear hst hI1 hI2 hc2 hc0
   go_wp2_with fail
   go_loopw [65] (fun vi wr => JoRel w.heap.size x0 r w vi wr) (fun vi _ => r.length - (intOf vi).toNat)
   case atStart => exact ⟨0, Nat.zero_le _, rfl, HI2.out, hc02⟩
   case round =>
    obtain ⟨j, hj, rfl, hIj, hcj⟩ := hrel
    have HIj := Lib.hid hIj
    clear hIj
    by_cases hltj : j < r.length
    ·have hxm : r[j]'hltj ∈ x0 :: r := List.mem_cons_of_mem _ (List.getElem_mem hltj)
     have hsz := Hx.out _ hxm
     have hcell := Hc.out (j + 1) (r[j]'hltj) (by rw [List.getElem?_cons_succ]; exact List.getElem?_eq_getElem hltj)
     have htake : r.take (j + 1) = r.take j ++ [r[j]'hltj] := List.take_succ_eq_append_getElem hltj
     have hbl := blanks_len (r.take j) (fun y hy => Hx.out y (List.mem_cons_of_mem _ (List.mem_of_mem_take hy)))
     rw [List.length_take] at hbl
     generalize r[j]'hltj = y at hsz hcell htake
     have hnext : Lib.byteCells (x0.data.toList ++ blanks (r.take j)) ++ Lib.strCells ⟨#[32]⟩ ++ Lib.strCells y = Lib.byteCells (x0.data.toList ++ blanks (r.take (j + 1))) := by
      rw [htake, blanks_snoc]
      simp [Lib.byteCells, Lib.strCells]
     have hl0 : (Lib.byteCells (x0.data.toList ++ blanks (r.take j))).length = x0.size + (blanks (r.take j)).length := by
      have h3 : x0.data.toList.length = x0.size := Array.length_toList
      simp only [Lib.byteCells, List.length_map, List.length_append, h3]
     have Hnext := Lib.hid hnext
     have Hl0 := Lib.hid hl0
     have hcy : wr.cell? ⟨bk, o + (j + 1), none⟩ = some (.string y) := (hcj.cell (p := ⟨bk, o + (j + 1), none⟩) hbk NoB.elim).trans hcell
     have hmin : min j r.length * 100001 ≤ 99999 * 100001 := Nat.mul_le_mul_right _ (by omega)
     have hszw := hcj.size
     have hltI2 : (j : Int) < (r.length : Int) := by omega
     clear hxm htake hnext hl0 hcell
     have hcy2 : wr.cell? ⟨bk, o + 1 + j, none⟩ = some (.string y) := by rw [show o + 1 + j = o + (j + 1) by omega]; exact hcy
     go_wp2_with fail
     refine (writeString_any w.heap.size w.heap.size _ ⟨#[32]⟩ wr HIj.out (by rw [Hl0.out]; show _ + 1 ≤ _; omega) hszw).mono ?_
     rintro en w3 ⟨rfl, hI3, hc3⟩
     have HI3 := Lib.hid hI3
     have hc03 : Chg NoB w w3 := hcj.trans hc3 (fun y e => .inr e.1)
     clear hI3 hc3
     go_wp2_with fail
     refine (writeString_any w.heap.size w.heap.size _ y w3 HI3.out (by rw [List.length_append, Hl0.out, Lib.strCells_length]; show _ + 1 + _ ≤ _; omega) hc03.size).mono ?_
     rintro en w4 ⟨rfl, hI4, hc4⟩
     rw [Hnext.out] at hI4
     have HI4 := Lib.hid hI4
     have hc04 : Chg NoB w w4 := hc03.trans hc4 (fun y e => .inr e.1)
     clear hI4 hc4
     go_wp2_with fail
     refine ⟨⟨j + 1, hltj, by go_num, HI4.out, hc04⟩, by simp [intOf]; omega⟩
    ·have hje : r.take j = r := List.take_of_length_le (by omega)
     have hI9 := HIj.out
     rw [hje] at hI9
     have HI9 := Lib.hid hI9
     have hltI2 : ¬ (j : Int) < (r.length : Int) := by omega
     clear hI9 hje
     go_wp2_with fail
     refine (Tryz.Builder_String_any w.heap.size w.heap.size _ wr HI9.out hcj.size).mono ?_
     rintro en w5 ⟨rfl, hb5⟩
     have hc5 : Chg NoB w w5 := ⟨hb5.os.trans hcj.os, hb5.tape.trans hcj.tape, hb5.output.trans hcj.output, Nat.le_trans hcj.size hb5.size, fun i hi hn => (hb5.block i hi).trans (hcj.block i hi hn)⟩
     go_wp2_with fail
     go_ret
     exact ⟨rfl, hc5⟩
set_option maxHeartbeats 400000 in
theorem join_one (bk o c : Nat) (x0 : ByteArray) (w : World) (hc : w.cell? ⟨bk, o, none⟩ = some (.string x0)) :
  Calls Tryz.prog 51 #[.slice (some ⟨bk, o, none⟩) 1 c, .string ⟨#[32]⟩] w (RetV (.string ⟨(joinW [x0]).toArray⟩) w) := by
 go_enter Tryz.func51, Tryz.ntmps51
 go_wp2_with fail
 go_ret
 refine ⟨?_, Chg.refl _ _⟩
 show Ending.returned (Value.string x0) = _
 simp [joinW, blanks]
theorem join_any (bk o c : Nat) (xs : List ByteArray) (w : World) (h1 : 1 ≤ xs.length) (hc : ∀ (j : Nat) x, xs[j]? = some x → w.cell? ⟨bk, o + j, none⟩ = some (.string x)) (hbk : bk < w.heap.size) (hn : xs.length ≤ 100000) (hcap : xs.length ≤ c)
  (hx : ∀ x ∈ xs, x.size ≤ 100000) : Calls Tryz.prog 51 #[.slice (some ⟨bk, o, none⟩) xs.length c, .string ⟨#[32]⟩] w (RetV (.string ⟨(joinW xs).toArray⟩) w) := by
 match xs, h1, hc, hn, hcap, hx with
 | [x], _, hc, _, _, _ => exact join_one bk o c x w (hc 0 x rfl)
 | x :: y :: r, _, hc, hn, hcap, hx => exact join_many bk o c x (y :: r) w (by simp) hc hbk (by simp only [List.length_cons] at hn ⊢; omega) (by simpa using hcap) hx
end Go.Proofs.YtgcmfpcgmkkobaaGreatDoor
