/-
  schema.Find: the first node with an ID, of a right schema.; A file's groups as they read in memory; a slice of numbers, from a place on.; wire.Sum: the sum of bytes by a table.; shredcollaw3.coded.
-/
import Derived.Test.YtkchmgjmecojcaaGreatDoorWalk
import Derived.Test.YtkchmgjmecojcaaGreatDoorValid
import Derived.Test.YtkchmgjmecojcaaGreatDoorRead
import Derived.Test.YtkchmgjmecojcaaGreatDoorSumR
import Derived.Test.YtkchmgjmecojcaaGreatDoorOwnIn
import Derived.Test.YtkchmgjmecojcaaGreatDoorSumC
import Derived.Test.YtkchmgjmecojcaaGreatDoorCode
set_option linter.unusedVariables false
set_option maxHeartbeats 20000000
set_option maxRecDepth 100000
set_option linter.unusedSimpArgs false
namespace Go.Proofs.YtkchmgjmecojcaaGreatDoor
open Go.RowKit
structure Non (w : World) (N : Value) : Prop where
 cell : w.cell? ⟨5, 0, none⟩ = some N
 form : ∃ T v, N = .iface T v
theorem Non.keep0 {w w' : World} {N : Value} (h : Non w N) (hc : Chg NoB w w') : Non w' N :=
 ⟨(hc.cell (lt_of_cell h.cell) nbE).trans h.cell, h.form⟩
def spDt (p : Nat × Nat) : Dt := .agg [natDt p.1, natDt p.2]
def Pt.dt (p : Pt) : Dt := .agg [natDt p.n, .list 2 (p.l.map spDt)]
theorem reads_sp (w : World) (S : Nat → Prop) (a b : Nat) : Reads w S (spDt (a, b)) [.int .i64 (a : Nat), .int .i64 (b : Nat)] :=
 ⟨[_], _, rfl, ⟨rfl, rfl⟩, [_], _, rfl, ⟨rfl, rfl⟩, rfl⟩
theorem reads_pt {w : World} {S : Nat → Prop} {n : Nat} {l : List (Nat × Nat)} {v : Value} (h : Reads w S (.list 2 (l.map spDt)) [v]) : Reads w S (Pt.dt ⟨n, l⟩) [.int .i64 (n : Nat), v] :=
 ⟨[_], _, rfl, ⟨rfl, rfl⟩, [v], [], rfl, h, rfl⟩
def LsAt (w : World) (v : Value) (q : List Nat) : Prop := ∃ A c, v = .slice A q.length c ∧ q.length ≤ c ∧ c ≤ maxLen ∧ (q ≠ [] → ∃ b off, A = some ⟨b, off, none⟩ ∧ b < w.heap.size ∧ ∀ j x, q[j]? = some x → w.cell? ⟨b, off + j, none⟩ = some (.int .i64 (x : Nat)))
theorem LsAt.of {w : World} {S : Nat → Prop} {q : List Nat} {v : Value} (h : Reads w S (.list 1 (q.map natDt)) [v]) : LsAt w v q := by
 obtain ⟨a, cap, h1, h2, h3, h4⟩ := reads_list h
 rw [List.length_map] at h1 h2 h4
 refine ⟨a, cap, h1, h2, h3, fun hq => ?_⟩
 obtain ⟨b, off, rfl, _, hb, hE⟩ := h4 (fun e => hq (List.eq_nil_of_length_eq_zero e))
 refine ⟨b, off, rfl, hb, fun j x hj => ?_⟩
 obtain ⟨cs, c1, c2, c3⟩ := ReadsE.get hE j (natDt x) (by rw [List.getElem?_map, hj]; rfl)
 obtain ⟨rfl, _⟩ := (c3 : cs = [.int .i64 (x : Nat)] ∧ _)
 have := c2 0 _ rfl
 simpa using this
theorem LsAt.keep {C : Nat → Prop} {w w' : World} {v : Value} {q : List Nat} (h : LsAt w v q) (hc : Chg C w w') (hn : ∀ b, b < w.heap.size → ¬ C b) : LsAt w' v q := by
 obtain ⟨A, c, h1, h2, h3, h4⟩ := h
 refine ⟨A, c, h1, h2, h3, fun hq => ?_⟩
 obtain ⟨b, off, h5, h6, h7⟩ := h4 hq
 exact ⟨b, off, h5, Nat.lt_of_lt_of_le h6 hc.size, fun j x hj => (hc.cell (p := ⟨b, off + j, none⟩) h6 (hn b h6)).trans (h7 j x hj)⟩
theorem LsAt.keep0 {w w' : World} {v : Value} {q : List Nat} (h : LsAt w v q) (hc : Chg NoB w w') : LsAt w' v q := h.keep hc (fun _ _ => nbE)
theorem LsAt.drop {w : World} {b off c : Nat} {q : List Nat} {n : Nat} {A : Option Addr} (hn : n ≤ q.length) (h1 : q.length ≤ c) (h2 : c ≤ maxLen) (hb : b < w.heap.size) (hc : ∀ j x, q[j]? = some x → w.cell? ⟨b, off + j, none⟩ = some (.int .i64 (x : Nat)))
  (hA : A = (if c = n then some ⟨b, off, none⟩ else some ⟨b, off + n, none⟩)) : LsAt w (.slice A (q.length - n) (c - n)) (q.drop n) := by
 refine ⟨A, c - n, by rw [List.length_drop], by rw [List.length_drop]; omega, by omega, fun hne => ?_⟩
 have hlt : n < q.length := by
  rcases Nat.lt_or_ge n q.length with h | h
  ·exact h
  ·exact absurd (List.drop_eq_nil_of_le h) hne
 refine ⟨b, off + n, by rw [hA, if_neg (by omega)], hb, fun j x hj => ?_⟩
 rw [List.getElem?_drop] at hj
 have := hc (n + j) x hj
 rwa [← Nat.add_assoc] at this
theorem LsAt.ofS {w : World} {S : Nat → Prop} {q : List Nat} {v : Value} (h : Reads w S (.list 1 (q.map natDt)) [v]) :
  ∃ A c, v = .slice A q.length c ∧ q.length ≤ c ∧ c ≤ maxLen ∧ (q ≠ [] → ∃ b off, A = some ⟨b, off, none⟩ ∧ S b ∧ b < w.heap.size ∧ ∀ j x, q[j]? = some x → w.cell? ⟨b, off + j, none⟩ = some (.int .i64 (x : Nat))) := by
 obtain ⟨a, cap, h1, h2, h3, h4⟩ := reads_list h
 rw [List.length_map] at h1 h2 h4
 refine ⟨a, cap, h1, h2, h3, fun hq => ?_⟩
 obtain ⟨b, off, rfl, hSb, hb, hE⟩ := h4 (fun e => hq (List.eq_nil_of_length_eq_zero e))
 refine ⟨b, off, rfl, hSb, hb, fun j x hj => ?_⟩
 obtain ⟨cs, c1, c2, c3⟩ := ReadsE.get hE j (natDt x) (by rw [List.getElem?_map, hj]; rfl)
 obtain ⟨rfl, _⟩ := (c3 : cs = [.int .i64 (x : Nat)] ∧ _)
 have := c2 0 _ rfl
 simpa using this
def SuRel (l : List UInt8) (vc vi : Value) : Prop := ∃ i : Nat, i ≤ l.length ∧ vi = .int .i64 (i : Nat) ∧ vc = .int .u32 (crcRun 4294967295 (l.take i) : Nat)
theorem sum_any (s : ByteArray) (w : World) (hb : s.size ≤ 9000000000000000000) : Calls Tryz.prog 32 #[.string s] w (RetV (.int .u32 (crcF s.data.toList : Nat)) w) := by
 have hl := size_list s
 have hz := zero_of_info (P := Tryz.prog) (t := 152) (v := .agg (Array.replicate 256 (.int .u32 0))) (n := 256) (by kernel_rfl)
 obtain ⟨hz1, hz2⟩ := hz
 have Hz2 := Lib.hid hz2
 clear hz2
 go_enter Tryz.func32, Tryz.ntmps32
 go_wp2_with fail
 refine (table_any w).mono ?_
 rintro en w1 ⟨rfl, hc1⟩
 have hbz : Blk (w1.alloc (.cells (List.replicate 256 (Value.int .u32 0)).toArray 152)) w1.heap.size (List.replicate 256 (.int .u32 0)) 152 := Blk.new _ _ _
 have hst := run_store_blk (P := Tryz.prog) (cs' := tabCells 256) hbz (by rw [Hz2.out, tab_len (by omega)]) (by rw [tab_len (by omega), List.length_replicate]) tab_one
 rw [World.setRow_alloc_new] at hst
 have Hst := Lib.hid hst
 clear hst hbz
 go_wp2_with fail
 rw [← List.toArray_replicate]
 simp only [Result.andThen, Hst.out]
 rw [Oper.upon_skip]
 generalize hw2 : World.alloc _ _ = w2
 have hc2 : Chg NoB w1 w2 := by
  rw [← hw2]
  repeat (first | exact Chg.refl _ _ | apply Chg.alloc | apply Chg.drew)
 have hb2 : Blk w2 (w1.heap.size) ((tabCells 256)) 152 := by
  rw [← hw2]
  repeat (first | exact Blk.newAt (by first | rfl | (simp; done) | (simp; omega)) | apply Blk.alloc | apply Blk.drew)
 clear hw2
 have hc02 := hc1.tr hc2
 go_wp2_with fail
 go_loop [4, 9] (SuRel s.data.toList) (fun _ vi => s.size - (intOf vi).toNat)
 case atStart => exact ⟨0, by omega, rfl, rfl⟩
 case round =>
  obtain ⟨i, hi, rfl, rfl⟩ := hrel
  rw [hl] at hi
  have Hl := Lib.hid hl
  clear hl
  obtain ⟨c, hc⟩ : ∃ c, c = crcRun 4294967295 (s.data.toList.take i) := ⟨_, rfl⟩
  have hclt : c < 4294967296 := by rw [hc]; exact crcRun_lt _ (by decide)
  rw [← hc]
  have Hc := Lib.hid hc
  clear hc
  by_cases hlt : i < s.size
  ·have hlt' : (i : Int) < (s.size : Int) := by omega
   have hbs := s[i].toNat_lt
   have hbI : (s[i].toNat : Int) ≤ 255 := by omega
   obtain ⟨q, hq⟩ : ∃ q, q = (c % 256) ^^^ s[i].toNat := ⟨_, rfl⟩
   have hql : q < 256 := by rw [hq]; exact Nat.xor_lt_two_pow (n := 8) (by omega) (by omega)
   have hx : bits .xor .u8 ((c : Int) % 256) (s[i].toNat : Int) = (q : Nat) := by
    have h1 := u8_xor_nat (c % 256) s[i].toNat (by omega) (by omega)
    rw [hq, ← h1]
    rfl
   have hqI : (q : Int) < 256 := by omega
   have c0 : w2.cell? ⟨w1.heap.size, q, none⟩ = some (.int .u32 (crcSteps 8 q : Nat)) := (hb2.cell q).trans (tab_get hql)
   have hx2 : bits .xor .u32 ((crcSteps 8 q : Nat) : Int) ((c : Int) / 256) = ((crcSteps 8 q ^^^ (c / 256) : Nat) : Int) := u32_xor_nat _ (c / 256) (crcSteps_lt 8 (by omega)) (by omega)
   have hstep : crcRun 4294967295 (s.data.toList.take (i + 1)) = crcSteps 8 q ^^^ (c / 256) := by
    rw [List.take_succ_eq_append_getElem (by rw [Hl.out]; exact hlt), crcRun_snoc, ← Hc.out, crcByte_tab, hq]
    rfl
   have Hstep := Lib.hid hstep
   clear hstep hq
   go_wp2_with fail
   go_round
   case rel => exact ⟨i + 1, by rw [Hl.out]; omega, by go_num, by rw [Hstep.out]⟩
   case measure => simp [intOf]; omega
  ·have hlt' : ¬ (i : Int) < (s.size : Int) := by omega
   have hx := u32_xor_nat 4294967295 c (by decide) hclt
   go_wp2_with fail
   go_ret
   refine ⟨?_, hc02⟩
   have hf : crcF s.data.toList = 4294967295 ^^^ c := by
    unfold crcF
    rw [Hc.out, List.take_of_length_le (by rw [Hl.out]; omega), Nat.xor_comm]
   rw [hf]
   exact congrArg (fun z => Ending.returned (Value.int .u32 z)) hx
theorem told_still {w w' : World} {A : Nat → Addr} {v : Value} {n at' : Int} (h : Told w A v n at') (hc : Chg NoB w w') : Told w' A v n at' := by
 cases h with
 | nil => exact .nil
 | sent i hi => exact .sent i hi
 | fault p i _ hi h0 h1 hb => exact .fault p i _ hi ((hc.cell (lt_of_block' h0) nbE).trans h0) ((hc.cell (lt_of_block' h1) nbE).trans h1) hb
theorem coded3_any (v : Value) (n at' c : Int) (w : World) (A : Nat → Addr) (hS : Sents w A) (ht : Told w A v n at') (hn : -2 ≤ n ∧ n ≤ 100) (hc : -2 ≤ c ∧ c ≤ 100) :
  Calls Tryz.prog 7 #[v, .int .i64 c] w (RetV (.bool (decide (n = c) && decide (at' = -1))) w) := by
 go_enter Tryz.func7, Tryz.ntmps7
 go_wp2_with fail
 refine (code_any v n at' w A hS ht).mono ?_
 rintro en w1 ⟨rfl, hc1⟩
 by_cases h1 : n = c
 ·subst h1
  by_cases h2 : at' = -1
  ·subst h2
   go_wp2_with fail
   go_ret
   exact ⟨by simp, hc1⟩
  ·have h2' : (at' == -1) = false := by simpa using h2
   have H2 := Lib.hid h2
   clear h2
   go_wp2_with fail
   go_ret
   exact ⟨by simp [H2.out], hc1⟩
 ·have h1' : (n == c) = false := by simpa using h1
  have H1 := Lib.hid h1
  clear h1
  go_wp2_with fail
  go_ret
  exact ⟨by simp [H1.out], hc1⟩
end Go.Proofs.YtkchmgjmecojcaaGreatDoor
