/-
  strings.Join by single blanks (over a builder whose copyCheck bears a stop: by writeString_any).; evolve.numbered: NODE with numbers from one on.; plain.Code: an error's number and place.
-/
import Derived.Test.YtgcmfpcgmkkobaaGreatDoorShelf
import Derived.Test.YtgcmfpcgmkkobaaGreatDoorTreeMore
import Derived.Test.YtgcmfpcgmkkobaaGreatDoorWalk
import Derived.Test.YtgcmfpcgmkkobaaGreatDoorTree
import Derived.Test.YtgcmfpcgmkkobaaGreatDoorText
import Derived.Lib.ItoaLen
import Derived.Test.YtgcmfpcgmkkobaaGreatDoorErrAs
set_option linter.unusedVariables false
set_option maxHeartbeats 20000000
set_option maxRecDepth 100000
set_option linter.unusedSimpArgs false
namespace Go.Proofs.YtgcmfpcgmkkobaaGreatDoor
open Go.RowKit
def blanks (r : List ByteArray) : List UInt8 := (r.map fun x => (32 : UInt8) :: x.data.toList).flatten
def joinW : List ByteArray → List UInt8
 | [] => []
 | x :: r => x.data.toList ++ blanks r
theorem blanks_snoc (r : List ByteArray) (x : ByteArray) : blanks (r ++ [x]) = blanks r ++ 32 :: x.data.toList := by simp [blanks]
theorem blanks_len : ∀ (r : List ByteArray), (∀ x ∈ r, x.size ≤ 100000) → (blanks r).length ≤ r.length * 100001
 | [], _ => by simp [blanks]
 | x :: r, h => by
  have h1 := h x (List.mem_cons_self ..)
  have h2 := blanks_len r (fun y hy => h y (List.mem_cons_of_mem _ hy))
  have h3 : x.data.toList.length = x.size := Array.length_toList
  have h4 : (blanks (x :: r)).length = x.data.toList.length + 1 + (blanks r).length := by
   unfold blanks
   rw [List.map_cons, List.flatten_cons, List.length_append, List.length_cons]
  rw [h4, List.length_cons, Nat.succ_mul]
  omega
def JoLen (n : Nat) (vn vi : Value) : Prop := ∃ (k m : Nat), k ≤ n ∧ vi = .int .i64 (k : Nat) ∧ vn = .int .i64 (m : Nat) ∧ m ≤ 100000 + k * 100000
def JoRel (B : Nat) (x0 : ByteArray) (r : List ByteArray) (w : World) (vi : Value) (wr : World) : Prop :=
 ∃ k : Nat, k ≤ r.length ∧ vi = .int .i64 (k : Nat) ∧ IsB B B (Lib.byteCells (x0.data.toList ++ blanks (r.take k))) wr ∧ Chg NoB w wr
theorem join_many (bk o c : Nat) (x0 : ByteArray) (r : List ByteArray) (w : World) (hr1 : 1 ≤ r.length) (hc : ∀ (j : Nat) x, (x0 :: r)[j]? = some x → w.cell? ⟨bk, o + j, none⟩ = some (.string x)) (hbk : bk < w.heap.size) (hn : r.length ≤ 99999) (hcap : r.length + 1 ≤ c)
  (hx : ∀ x ∈ x0 :: r, x.size ≤ 100000) : Calls Tryz.prog 51 #[.slice (some ⟨bk, o, none⟩) (r.length + 1) c, .string ⟨#[32]⟩] w (RetV (.string ⟨(joinW (x0 :: r)).toArray⟩) w) := by
 have Hc := Lib.hid hc
 have Hx := Lib.hid hx
 clear hc hx
 have hdv : ¬ ((9223372036854775807 : Int) / (r.length : Int) ≤ 1) := by
  have h1 : (2 : Int) ≤ 9223372036854775807 / (r.length : Int) := Int.le_ediv_of_mul_le (by omega) (by omega)
  omega
 have hrI : ¬ ((r.length : Int) = 0) := by omega
 go_enter Tryz.func51, Tryz.ntmps51
 go_wp2_with fail
 go_loop [5, 41] (fun vn vi => JoLen (r.length + 1) vn vi) (fun _ vi => r.length + 1 - (intOf vi).toNat)
 case atStart => exact ⟨0, r.length, Nat.zero_le _, rfl, rfl, by omega⟩
 case round =>
  obtain ⟨k, m, hk, rfl, rfl, hm⟩ := hrel
  by_cases hlt : k < r.length + 1
  ·obtain ⟨x, hxk⟩ : ∃ x, (x0 :: r)[k]? = some x := ⟨(x0 :: r)[k], List.getElem?_eq_getElem hlt⟩
   have hcx := Hc.out k x hxk
   have hsz := Hx.out x (List.mem_of_getElem? hxk)
   have hltI : (k : Int) < (r.length : Int) + 1 := by omega
   have hszI : ¬ ((9223372036854775807 : Int) - (m : Int) < (x.size : Int)) := by omega
   clear hxk
   go_wp2_with fail
   refine ⟨⟨k + 1, m + x.size, hlt, by go_num, by go_num, by omega⟩, by simp [intOf]; omega⟩
  ·have hltI : ¬ ((k : Int) < (r.length : Int) + 1) := by omega
   go_wp2_with fail
   refine (Tryz.Builder_Grow_fresh w.heap.size w.heap.size m _ (Nat.le_refl _) (heap_alloc_new w _) (by simp) (by omega)).mono ?_
   rintro en w1 ⟨rfl, hB1, hb1⟩
   have hc1 : Chg NoB w w1 := (Chg.ofBelow ⟨hb1.os, hb1.tape, hb1.output, Nat.le_trans (by simp) hb1.size, fun i hi => (hb1.block i hi).trans (Below.heap_alloc w _ i hi)⟩)
   have hI1 : IsB w.heap.size w.heap.size [] w1 := .inr hB1
   have hc0 : w1.cell? ⟨bk, o, none⟩ = some (.string x0) := (hc1.cell (p := ⟨bk, o, none⟩) hbk nbE).trans (Hc.out 0 x0 rfl)
   have hx0 := Hx.out x0 (List.mem_cons_self ..)
   clear hB1 hb1
   go_wp2_with fail
   refine (writeString_any w.heap.size w.heap.size [] x0 w1 hI1 (by simp; omega) hc1.size).mono ?_
   rintro en w2 ⟨rfl, hI2, hc2⟩
   have hc02 : Chg NoB w w2 := hc1.trans hc2 (fun y e => .inr e.1)
   have hst : ([] : List Value) ++ Lib.strCells x0 = Lib.byteCells (x0.data.toList ++ blanks (r.take 0)) := by simp [blanks, Lib.strCells, Lib.byteCells]
   rw [hst] at hI2
   have HI2 := Lib.hid hI2
   clear hst hI1 hI2 hc2 hc0
   go_wp2_with fail
   go_loopw [65] (fun vi wr => JoRel w.heap.size x0 r w vi wr) (fun vi _ => r.length - (intOf vi).toNat)
   case atStart => exact ⟨0, Nat.zero_le _, rfl, HI2.out, hc02⟩
   case round =>
    obtain ⟨j, hj, rfl, hIj, hcj⟩ := hrel
    have HIj := Lib.hid hIj
    clear hIj
    by_cases hltj : j < r.length
    ·have hxm : r[j]'hltj ∈ x0 :: r := List.mem_cons_of_mem _ (List.getElem_mem hltj)
     have hsz := Hx.out _ hxm
     have hcell := Hc.out (j + 1) (r[j]'hltj) (by rw [List.getElem?_cons_succ]; exact List.getElem?_eq_getElem hltj)
     have htake : r.take (j + 1) = r.take j ++ [r[j]'hltj] := List.take_succ_eq_append_getElem hltj
     have hbl := blanks_len (r.take j) (fun y hy => Hx.out y (List.mem_cons_of_mem _ (List.mem_of_mem_take hy)))
     rw [List.length_take] at hbl
     generalize r[j]'hltj = y at hsz hcell htake
     have hnext : Lib.byteCells (x0.data.toList ++ blanks (r.take j)) ++ Lib.strCells ⟨#[32]⟩ ++ Lib.strCells y = Lib.byteCells (x0.data.toList ++ blanks (r.take (j + 1))) := by
      rw [htake, blanks_snoc]
      simp [Lib.byteCells, Lib.strCells]
     have hl0 : (Lib.byteCells (x0.data.toList ++ blanks (r.take j))).length = x0.size + (blanks (r.take j)).length := by
      have h3 : x0.data.toList.length = x0.size := Array.length_toList
      simp only [Lib.byteCells, List.length_map, List.length_append, h3]
     have Hnext := Lib.hid hnext
     have Hl0 := Lib.hid hl0
     have hcy : wr.cell? ⟨bk, o + (j + 1), none⟩ = some (.string y) := (hcj.cell (p := ⟨bk, o + (j + 1), none⟩) hbk nbE).trans hcell
     have hmin : min j r.length * 100001 ≤ 99999 * 100001 := Nat.mul_le_mul_right _ (by omega)
     have hszw := hcj.size
     have hltI2 : (j : Int) < (r.length : Int) := by omega
     clear hxm htake hnext hl0 hcell
     have hcy2 : wr.cell? ⟨bk, o + 1 + j, none⟩ = some (.string y) := by rw [show o + 1 + j = o + (j + 1) by omega]; exact hcy
     go_wp2_with fail
     refine (writeString_any w.heap.size w.heap.size _ ⟨#[32]⟩ wr HIj.out (by rw [Hl0.out]; show _ + 1 ≤ _; omega) hszw).mono ?_
     rintro en w3 ⟨rfl, hI3, hc3⟩
     have HI3 := Lib.hid hI3
     have hc03 : Chg NoB w w3 := hcj.trans hc3 (fun y e => .inr e.1)
     clear hI3 hc3
     go_wp2_with fail
     refine (writeString_any w.heap.size w.heap.size _ y w3 HI3.out (by rw [List.length_append, Hl0.out, Lib.strCells_length]; show _ + 1 + _ ≤ _; omega) hc03.size).mono ?_
     rintro en w4 ⟨rfl, hI4, hc4⟩
     rw [Hnext.out] at hI4
     have HI4 := Lib.hid hI4
     have hc04 : Chg NoB w w4 := hc03.trans hc4 (fun y e => .inr e.1)
     clear hI4 hc4
     go_wp2_with fail
     refine ⟨⟨j + 1, hltj, by go_num, HI4.out, hc04⟩, by simp [intOf]; omega⟩
    ·have hje : r.take j = r := List.take_of_length_le (by omega)
     have hI9 := HIj.out
     rw [hje] at hI9
     have HI9 := Lib.hid hI9
     have hltI2 : ¬ (j : Int) < (r.length : Int) := by omega
     clear hI9 hje
     go_wp2_with fail
     refine (Tryz.Builder_String_any w.heap.size w.heap.size _ wr HI9.out hcj.size).mono ?_
     rintro en w5 ⟨rfl, hb5⟩
     have hc5 : Chg NoB w w5 := ⟨hb5.os.trans hcj.os, hb5.tape.trans hcj.tape, hb5.output.trans hcj.output, Nat.le_trans hcj.size hb5.size, fun i hi hn => (hb5.block i hi).trans (hcj.block i hi hn)⟩
     go_wp2_with fail
     go_ret
     exact ⟨rfl, hc5⟩
theorem join_one (bk o c : Nat) (x0 : ByteArray) (w : World) (hc : w.cell? ⟨bk, o, none⟩ = some (.string x0)) :
  Calls Tryz.prog 51 #[.slice (some ⟨bk, o, none⟩) 1 c, .string ⟨#[32]⟩] w (RetV (.string ⟨(joinW [x0]).toArray⟩) w) := by
 go_enter Tryz.func51, Tryz.ntmps51
 go_wp2_with fail
 go_ret
 refine ⟨?_, Chg.refl _ _⟩
 show Ending.returned (Value.string x0) = _
 simp [joinW, blanks]
theorem join_any (bk o c : Nat) (xs : List ByteArray) (w : World) (h1 : 1 ≤ xs.length) (hc : ∀ (j : Nat) x, xs[j]? = some x → w.cell? ⟨bk, o + j, none⟩ = some (.string x)) (hbk : bk < w.heap.size) (hn : xs.length ≤ 100000) (hcap : xs.length ≤ c)
  (hx : ∀ x ∈ xs, x.size ≤ 100000) : Calls Tryz.prog 51 #[.slice (some ⟨bk, o, none⟩) xs.length c, .string ⟨#[32]⟩] w (RetV (.string ⟨(joinW xs).toArray⟩) w) := by
 match xs, h1, hc, hn, hcap, hx with
 | [x], _, hc, _, _, _ => exact join_one bk o c x w (hc 0 x rfl)
 | x :: y :: r, _, hc, hn, hcap, hx => exact join_many bk o c x (y :: r) w (by simp) hc hbk (by simp only [List.length_cons] at hn ⊢; omega) (by simpa using hcap) hx
def semiB (s : ByteArray) : Bool := Lib.hasSuffix s.data.toList [59]
def cutS (s : ByteArray) : ByteArray := if semiB s then s.extract 0 (s.size - 1) else s
theorem semi_pos {s : ByteArray} (h : semiB s = true) : 1 ≤ s.size := by
 have h1 : [59] <:+ s.data.toList := List.isSuffixOf_iff_suffix.1 h
 have h2 := h1.length_le
 have h3 : s.data.toList.length = s.size := Array.length_toList
 simp only [List.length_singleton] at h2
 omega
theorem slCut_any (s : ByteArray) (w : World) (hs : s.size ≤ 9223372036854775807) :
  Calls Tryz.prog 165 #[.string s, .string ⟨#[59]⟩] w fun e w' => e = .returned (.tuple #[.string (cutS s), .bool (semiB s)]) ∧ w' = w := by
 have h := Tryz.stringslite_HasSuffix s ⟨#[59]⟩ w hs
 rw [show Lib.hasSuffix s.data.toList (⟨#[59]⟩ : ByteArray).data.toList = semiB s from rfl] at h
 go_enter Tryz.func165, Tryz.ntmps165
 go_wp2_with fail
 refine h.mono ?_
 rintro en w0 ⟨rfl, h0⟩
 obtain rfl := h0.symm
 clear h h0
 cases hb : semiB s with
 | false =>
  have hc : cutS s = s := by unfold cutS; rw [hb]; rfl
  have Hc := Lib.hid hc
  have Hb := Lib.hid hb
  clear hc hb
  go_wp2_with fail
  go_ret2
  rw [Hc.out, Hb.out]
  exact ⟨rfl, rfl⟩
 | true =>
  have hc : cutS s = s.extract 0 (s.size - 1) := by unfold cutS; rw [hb]; rfl
  have hp := semi_pos hb
  have hpI : (1 : Int) ≤ (s.size : Int) := by omega
  have Hc := Lib.hid hc
  have Hb := Lib.hid hb
  clear hc hb
  go_wp2_with fail
  go_ret2
  rw [Hc.out, Hb.out]
  exact ⟨rfl, rfl⟩
theorem cut_any (s : ByteArray) (w : World) (hs : s.size ≤ 9223372036854775807) :
  Calls Tryz.prog 140 #[.string s, .string ⟨#[59]⟩] w fun e w' => e = .returned (.tuple #[.string (cutS s), .bool (semiB s)]) ∧ w' = w := by
 go_enter Tryz.func140, Tryz.ntmps140
 go_wp2_with fail
 refine (slCut_any s w hs).mono ?_
 rintro en w0 ⟨rfl, h0⟩
 obtain rfl := h0.symm
 clear h0
 go_wp2_with fail
 go_ret2
 exact ⟨rfl, rfl⟩
def strDt (s : ByteArray) : Dt := .lit (.string s)
theorem reads_str (w : World) (S : Nat → Prop) (s : ByteArray) : Reads w S (strDt s) [.string s] := ⟨rfl, rfl⟩
theorem infoStr : (Tryz.prog.info? 9).map (fun i => (i.zero, i.size, i.bytes)) = some (some (.string ⟨#[]⟩), 1, 16) := by kernel_rfl
def hashW (n : Int) : ByteArray := (⟨#[35]⟩ : ByteArray) ++ (⟨(Lib.itoa n).toArray⟩ : ByteArray)
def numStep (i : Nat) (nx : Int) (w : ByteArray) : List ByteArray × Int :=
 if semiB w then ([cutS w, hashW nx ++ (⟨#[59]⟩ : ByteArray)], nx + 1) else if w = ⟨#[123]⟩ ∧ 0 < i then ([hashW nx, w], nx + 1) else ([w], nx)
def numGo (nx : Int) (ws : List ByteArray) : List ByteArray × Int × Nat := ws.foldl (fun s x => (s.1 ++ (numStep s.2.2 s.2.1 x).1, (numStep s.2.2 s.2.1 x).2, s.2.2 + 1)) ([], nx, 0)
theorem numGo_snoc (nx : Int) (ws : List ByteArray) (x : ByteArray) : numGo nx (ws ++ [x]) = ((numGo nx ws).1 ++ (numStep (numGo nx ws).2.2 (numGo nx ws).2.1 x).1, (numStep (numGo nx ws).2.2 (numGo nx ws).2.1 x).2, (numGo nx ws).2.2 + 1) := by
 unfold numGo
 rw [List.foldl_append]
 rfl
theorem cutS_size (s : ByteArray) : (cutS s).size ≤ s.size := by
 unfold cutS
 split
 ·rw [ByteArray.size_extract]; omega
 ·exact Nat.le_refl _
theorem hashW_size (n : Int) (h0 : -9223372036854775808 ≤ n) (h1 : n ≤ 9223372036854775807) : (hashW n).size ≤ 22 := by
 have h2 := Lib.itoa_length_le n h0 h1
 have h3 : (hashW n).size = 1 + (Lib.itoa n).length := by
  unfold hashW
  rw [ByteArray.size_append]
  rfl
 omega
def NuSt (ws : List ByteArray) (nx0 : Int) (w : World) (B : Nat) (vi vn vo : Value) (wr : World) : Prop :=
 ∃ (j : Nat) (out : List ByteArray) (nx : Int) (ao : Option Addr) (cp : Nat), j ≤ ws.length ∧ vi = .int .i64 (j : Nat) ∧ vn = .int .i64 nx ∧ vo = .slice ao out.length cp ∧ numGo nx0 (ws.take j) = (out, nx, j) ∧ Chg NoB w wr ∧
  Own wr B 9 1 (fun _ => False) vo (out.map strDt) ∧ out.length ≤ 2 * j ∧ nx0 ≤ nx ∧ nx ≤ nx0 + j ∧ (∀ x ∈ out, x.size ≤ 90000) ∧ j ≤ out.length
theorem numbered_any (line : ByteArray) (ws : List ByteArray) (nx0 m : Int) (w : World) (hl : line.size < 4294967281) (hm : w.cell? ⟨11, 0, none⟩ = some (.int .i64 m)) (hws : ws = Lib.splitB ⟨#[32]⟩ 0 (Lib.countB line ⟨#[32]⟩) line) (hwl : ws.length = Lib.countB line ⟨#[32]⟩ + 1) (hw9 : ws.length ≤ 40000) (hsz : ∀ x ∈ ws, x.size ≤ 80000)
  (hn0 : 0 ≤ nx0) (hn1 : nx0 ≤ 1000000) (hT : Tabs w.heap.size w) :
  Calls Tryz.prog 117 #[.string line, .int .i64 nx0] w (fun en w' => ∃ out nx, numGo nx0 ws = (out, nx, ws.length) ∧ en = .returned (.tuple #[.string ⟨(joinW out).toArray⟩, .int .i64 nx]) ∧ Chg NoB w w' ∧ out.length ≤ 2 * ws.length ∧ (∀ x ∈ out, x.size ≤ 90000) ∧ nx0 ≤ nx ∧ nx ≤ nx0 + ws.length) := by
 have hsp := Tryz.strings_Split line ⟨#[32]⟩ m w hl hm (by decide)
 have hw1 : 1 ≤ ws.length := by omega
 rw [← hws, ← hwl] at hsp
 have Hsz := Lib.hid hsz
 clear hsz hws hwl
 go_enter Tryz.func117, Tryz.ntmps117
 go_wp2_with fail
 refine hsp.mono ?_
 rintro en w1 ⟨rfl, hww⟩
 have hc1 : Chg NoB w w1 := by
  rw [← hww.symm]
  repeat (first | exact Chg.refl _ _ | apply Chg.alloc | apply Chg.drew)
 have hb1 : Blk w1 w.heap.size (ws.map Value.string) 9 := by rw [hww]; exact Blk.newAt rfl
 clear hsp hww
 have hz1 := hb1.lt
 go_wp2_with fail
 go_loopw [16, 1, 7] (fun vi vn vo wr => NuSt ws nx0 w1 w1.heap.size vi vn vo wr) (fun vi _ _ _ => ws.length - (intOf vi).toNat)
 case atStart => exact ⟨0, [], nx0, none, 0, Nat.zero_le _, rfl, rfl, rfl, rfl, Chg.refl _ _, Own.nil _ _ _ _ _, by simp, Int.le_refl _, by simp, fun x hx => (List.not_mem_nil hx).elim, Nat.le_refl _⟩
 case round =>
  obtain ⟨j, out, nx, ao, cp, hj, rfl, rfl, rfl, heq, hcr, ho, hol, hnx1, hnx2, hos, hjo⟩ := hrel
  have Heq := Lib.hid heq
  have Hos := Lib.hid hos
  clear heq hos
  by_cases hlt : j < ws.length
  ·have hltI : (j : Int) < (ws.length : Int) := by omega
   have hcw : wr.cell? ⟨w.heap.size, j, none⟩ = some (.string (ws[j]'hlt)) := (hcr.cell (p := ⟨w.heap.size, j, none⟩) hz1 nbE).trans (by rw [hb1.cell j, List.getElem?_map, List.getElem?_eq_getElem hlt]; rfl)
   have hxs := Hsz.out _ (List.getElem_mem hlt)
   have hstep := numGo_snoc nx0 (ws.take j) (ws[j]'hlt)
   rw [← List.take_succ_eq_append_getElem hlt, Heq.out] at hstep
   generalize ws[j]'hlt = x at hcw hxs hstep
   have Hstep := Lib.hid hstep
   clear hstep
   go_wp2_with fail
   refine (cut_any x wr (by omega)).mono ?_
   rintro en w0 ⟨rfl, h0⟩
   obtain rfl := h0.symm
   clear h0
   have hnx64 : -9223372036854775808 ≤ nx ∧ nx ≤ 9223372036854775807 := by omega
   have hhs := hashW_size nx hnx64.1 hnx64.2
   have hcs := cutS_size x
   have htab := (hT.keep0 (hc1.tr hcr)).pow
   cases hb : semiB x with
   | true =>
    have hst : numStep j nx x = ([cutS x, hashW nx ++ (⟨#[59]⟩ : ByteArray)], nx + 1) := by unfold numStep; rw [if_pos hb]
    have Hst := Lib.hid hst
    clear hst hb
    go_wp2_with fail
    refine (Tryz.strconv_Itoa nx hnx64.1 hnx64.2 wr htab).mono ?_
    rintro en w2 ⟨rfl, hg2⟩
    have hc2 : Chg NoB wr w2 := chg_grow (C := NoB) hg2
    clear hg2
    have hsI : (⟨(Lib.itoa nx).toArray⟩ : ByteArray).size = (Lib.itoa nx).length := by simp [ByteArray.size]
    have hsL := Lib.itoa_length_le nx hnx64.1 hnx64.2
    go_wp2_with (at_builtin; refine stop_here ?_)
    refine Stop.go ?_
    generalize hwA : World.alloc w2 _ = wA
    have hc2A : Chg NoB w2 wA := by
     rw [← hwA]
     repeat (first | exact Chg.refl _ _ | apply Chg.alloc | apply Chg.drew)
    have hbA : Blk wA (w2.heap.size) ([.string (cutS x), .string (hashW nx ++ (⟨#[59]⟩ : ByteArray))]) 9 := by
     rw [← hwA]
     repeat (first | exact Blk.newAt (by first | rfl | (simp; done) | (simp; omega)) | apply Blk.alloc | apply Blk.drew)
    clear hwA
    have hcA : Chg NoB wr wA := hc2.tr hc2A
    have hoA := ho.keep hcA (fun _ h => h.elim) (fun _ _ => nbE)
    have hlm : (out.map strDt).length = out.length := List.length_map ..
    refine wpList_own rfl (.tmp 32) (.tmp 38) 22 rfl w1.heap.size 9 Tryz.underlying22 infoStr rfl (by decide) rfl hoA rfl [strDt (cutS x), strDt (hashW nx ++ (⟨#[59]⟩ : ByteArray))] [.string (cutS x), .string (hashW nx ++ (⟨#[59]⟩ : ByteArray))] rfl (ReadsC.append [_] [_] [_] [_] (ReadsC.single rfl (reads_str _ _ _)) (ReadsC.single rfl (reads_str _ _ _))) hbA.news (fun e => by cases e) ?_ ?_ ?_ ?_
    ·rw [hlm]; unfold maxLen; (try simp only [List.length_cons, List.length_nil]); omega
    ·rw [hlm]; (try simp only [List.length_cons, List.length_nil]); omega
    ·have := (hcr.tr hcA).size; omega
    intro ao2 cp2 wB hoB hcB hatB
    rw [hlm] at hoB ⊢
    have hcV : Chg NoB w1 wB := (hcr.tr hcA).trans hcB (fun y e => .inr (hoA.block y e).1)
    go_wp2_with fail
    refine ⟨⟨j + 1, out ++ (numStep j nx x).1, nx + 1, ao2, cp2, hlt, by go_num, by go_num, ?_, ?_, hcV, ?_, ?_, by omega, by omega, ?_, ?_⟩, by simp [intOf]; omega⟩
    ·rw [Hst.out]; simp
    ·rw [Hstep.out, Hst.out]
    ·rw [Hst.out, List.map_append]; exact hoB
    ·rw [Hst.out]; simp only [List.length_append, List.length_cons, List.length_nil]; omega
    ·rw [Hst.out]
     intro y hy
     rcases List.mem_append.1 hy with hy | hy
     ·exact Hos.out y hy
     ·simp only [List.mem_cons, List.not_mem_nil, or_false] at hy
      first
       | (rcases hy with rfl | rfl <;> first | omega | (rw [ByteArray.size_append]; show _ + 1 ≤ _; omega))
       | (subst hy; omega)
    ·rw [Hst.out]; simp only [List.length_append, List.length_cons, List.length_nil]; omega
   | false =>
    by_cases hbr : x = ⟨#[123]⟩
    ·by_cases hj0 : 0 < j
     ·have hst : numStep j nx x = ([hashW nx, x], nx + 1) := by unfold numStep; rw [if_neg (by rw [hb]; simp), if_pos ⟨hbr, hj0⟩]
      have Hst := Lib.hid hst
      have hbl : (x.toList == [123]) = true := by rw [hbr, Lib.toList_data]; rfl
      have hjI : (0 : Int) < (j : Int) := by omega
      clear hst hb hbr
      go_wp2_with fail
      refine (Tryz.strconv_Itoa nx hnx64.1 hnx64.2 wr htab).mono ?_
      rintro en w2 ⟨rfl, hg2⟩
      have hc2 : Chg NoB wr w2 := chg_grow (C := NoB) hg2
      clear hg2
      have hsI : (⟨(Lib.itoa nx).toArray⟩ : ByteArray).size = (Lib.itoa nx).length := by simp [ByteArray.size]
      have hsL := Lib.itoa_length_le nx hnx64.1 hnx64.2
      go_wp2_with (at_builtin; refine stop_here ?_)
      refine Stop.go ?_
      generalize hwA : World.alloc w2 _ = wA
      have hc2A : Chg NoB w2 wA := by
       rw [← hwA]
       repeat (first | exact Chg.refl _ _ | apply Chg.alloc | apply Chg.drew)
      have hbA : Blk wA (w2.heap.size) ([.string (hashW nx), .string x]) 9 := by
       rw [← hwA]
       repeat (first | exact Blk.newAt (by first | rfl | (simp; done) | (simp; omega)) | apply Blk.alloc | apply Blk.drew)
      clear hwA
      have hcA : Chg NoB wr wA := hc2.tr hc2A
      have hoA := ho.keep hcA (fun _ h => h.elim) (fun _ _ => nbE)
      have hlm : (out.map strDt).length = out.length := List.length_map ..
      refine wpList_own rfl (.tmp 49) (.tmp 54) 22 rfl w1.heap.size 9 Tryz.underlying22 infoStr rfl (by decide) rfl hoA rfl [strDt (hashW nx), strDt x] [.string (hashW nx), .string x] rfl (ReadsC.append [_] [_] [_] [_] (ReadsC.single rfl (reads_str _ _ _)) (ReadsC.single rfl (reads_str _ _ _))) hbA.news (fun e => by cases e) ?_ ?_ ?_ ?_
      ·rw [hlm]; unfold maxLen; (try simp only [List.length_cons, List.length_nil]); omega
      ·rw [hlm]; (try simp only [List.length_cons, List.length_nil]); omega
      ·have := (hcr.tr hcA).size; omega
      intro ao2 cp2 wB hoB hcB hatB
      rw [hlm] at hoB ⊢
      have hcV : Chg NoB w1 wB := (hcr.tr hcA).trans hcB (fun y e => .inr (hoA.block y e).1)
      go_wp2_with fail
      refine ⟨⟨j + 1, out ++ (numStep j nx x).1, nx + 1, ao2, cp2, hlt, by go_num, by go_num, ?_, ?_, hcV, ?_, ?_, by omega, by omega, ?_, ?_⟩, by simp [intOf]; omega⟩
      ·rw [Hst.out]; simp
      ·rw [Hstep.out, Hst.out]
      ·rw [Hst.out, List.map_append]; exact hoB
      ·rw [Hst.out]; simp only [List.length_append, List.length_cons, List.length_nil]; omega
      ·rw [Hst.out]
       intro y hy
       rcases List.mem_append.1 hy with hy | hy
       ·exact Hos.out y hy
       ·simp only [List.mem_cons, List.not_mem_nil, or_false] at hy
        first
         | (rcases hy with rfl | rfl <;> first | omega | (rw [ByteArray.size_append]; show _ + 1 ≤ _; omega))
         | (subst hy; omega)
      ·rw [Hst.out]; simp only [List.length_append, List.length_cons, List.length_nil]; omega
     ·have hst : numStep j nx x = ([x], nx) := by unfold numStep; rw [if_neg (by rw [hb]; simp), if_neg (fun h => hj0 h.2)]
      have Hst := Lib.hid hst
      have hbl : (x.toList == [123]) = true := by rw [hbr, Lib.toList_data]; rfl
      have hjI : ¬ (0 : Int) < (j : Int) := by omega
      clear hst hb hbr
      go_wp2_with (at_builtin; refine stop_here ?_)
      refine Stop.go ?_
      generalize hwA : World.alloc wr _ = wA
      have hcA : Chg NoB wr wA := by
       rw [← hwA]
       repeat (first | exact Chg.refl _ _ | apply Chg.alloc | apply Chg.drew)
      have hbA : Blk wA (wr.heap.size) ([.string x]) 9 := by
       rw [← hwA]
       repeat (first | exact Blk.newAt (by first | rfl | (simp; done) | (simp; omega)) | apply Blk.alloc | apply Blk.drew)
      clear hwA
      have hoA := ho.keep hcA (fun _ h => h.elim) (fun _ _ => nbE)
      have hlm : (out.map strDt).length = out.length := List.length_map ..
      refine wpList_own rfl (.tmp 26) (.tmp 28) 22 rfl w1.heap.size 9 Tryz.underlying22 infoStr rfl (by decide) rfl hoA rfl [strDt x] [.string x] rfl (ReadsC.single rfl (reads_str _ _ _)) hbA.news (fun e => by cases e) ?_ ?_ ?_ ?_
      ·rw [hlm]; unfold maxLen; (try simp only [List.length_cons, List.length_nil]); omega
      ·rw [hlm]; (try simp only [List.length_cons, List.length_nil]); omega
      ·have := (hcr.tr hcA).size; omega
      intro ao2 cp2 wB hoB hcB hatB
      rw [hlm] at hoB ⊢
      have hcV : Chg NoB w1 wB := (hcr.tr hcA).trans hcB (fun y e => .inr (hoA.block y e).1)
      go_wp2_with fail
      refine ⟨⟨j + 1, out ++ (numStep j nx x).1, nx, ao2, cp2, hlt, by go_num, by go_num, ?_, ?_, hcV, ?_, ?_, by omega, by omega, ?_, ?_⟩, by simp [intOf]; omega⟩
      ·rw [Hst.out]; simp
      ·rw [Hstep.out, Hst.out]
      ·rw [Hst.out, List.map_append]; exact hoB
      ·rw [Hst.out]; simp only [List.length_append, List.length_cons, List.length_nil]; omega
      ·rw [Hst.out]
       intro y hy
       rcases List.mem_append.1 hy with hy | hy
       ·exact Hos.out y hy
       ·simp only [List.mem_cons, List.not_mem_nil, or_false] at hy
        first
         | (rcases hy with rfl | rfl <;> first | omega | (rw [ByteArray.size_append]; show _ + 1 ≤ _; omega))
         | (subst hy; omega)
      ·rw [Hst.out]; simp only [List.length_append, List.length_cons, List.length_nil]; omega
    ·have hst : numStep j nx x = ([x], nx) := by unfold numStep; rw [if_neg (by rw [hb]; simp), if_neg (fun h => hbr h.1)]
     have Hst := Lib.hid hst
     have hbl : (x.toList == [123]) = false := by
      rw [beq_eq_false_iff_ne]
      intro e
      apply hbr
      have e2 : x.data.toList = (⟨#[123]⟩ : ByteArray).data.toList := by rw [← Lib.toList_data]; exact e
      obtain ⟨y⟩ := x
      have e3 : y = #[123] := Array.toList_inj.1 e2
      rw [e3]
     clear hst hb hbr
     go_wp2_with (at_builtin; refine stop_here ?_)
     refine Stop.go ?_
     generalize hwA : World.alloc wr _ = wA
     have hcA : Chg NoB wr wA := by
      rw [← hwA]
      repeat (first | exact Chg.refl _ _ | apply Chg.alloc | apply Chg.drew)
     have hbA : Blk wA (wr.heap.size) ([.string x]) 9 := by
      rw [← hwA]
      repeat (first | exact Blk.newAt (by first | rfl | (simp; done) | (simp; omega)) | apply Blk.alloc | apply Blk.drew)
     clear hwA
     have hoA := ho.keep hcA (fun _ h => h.elim) (fun _ _ => nbE)
     have hlm : (out.map strDt).length = out.length := List.length_map ..
     refine wpList_own rfl (.tmp 26) (.tmp 28) 22 rfl w1.heap.size 9 Tryz.underlying22 infoStr rfl (by decide) rfl hoA rfl [strDt x] [.string x] rfl (ReadsC.single rfl (reads_str _ _ _)) hbA.news (fun e => by cases e) ?_ ?_ ?_ ?_
     ·rw [hlm]; unfold maxLen; (try simp only [List.length_cons, List.length_nil]); omega
     ·rw [hlm]; (try simp only [List.length_cons, List.length_nil]); omega
     ·have := (hcr.tr hcA).size; omega
     intro ao2 cp2 wB hoB hcB hatB
     rw [hlm] at hoB ⊢
     have hcV : Chg NoB w1 wB := (hcr.tr hcA).trans hcB (fun y e => .inr (hoA.block y e).1)
     go_wp2_with fail
     refine ⟨⟨j + 1, out ++ (numStep j nx x).1, nx, ao2, cp2, hlt, by go_num, by go_num, ?_, ?_, hcV, ?_, ?_, by omega, by omega, ?_, ?_⟩, by simp [intOf]; omega⟩
     ·rw [Hst.out]; simp
     ·rw [Hstep.out, Hst.out]
     ·rw [Hst.out, List.map_append]; exact hoB
     ·rw [Hst.out]; simp only [List.length_append, List.length_cons, List.length_nil]; omega
     ·rw [Hst.out]
      intro y hy
      rcases List.mem_append.1 hy with hy | hy
      ·exact Hos.out y hy
      ·simp only [List.mem_cons, List.not_mem_nil, or_false] at hy
       first
        | (rcases hy with rfl | rfl <;> first | omega | (rw [ByteArray.size_append]; show _ + 1 ≤ _; omega))
        | (subst hy; omega)
     ·rw [Hst.out]; simp only [List.length_append, List.length_cons, List.length_nil]; omega
  ·have hje : j = ws.length := by omega
   have heq := Heq.out
   rw [hje, List.take_length] at heq
   have Hfin := Lib.hid heq
   have hltI : ¬ (j : Int) < (ws.length : Int) := by omega
   have hrd := ho.reads (S' := fun y => w1.heap.size ≤ y) (fun _ h => h.elim) (fun y hy _ => hy) (by rw [List.length_map]; unfold maxLen; omega)
   obtain ⟨a', c', hv, hlen', hcap', hel'⟩ := reads_list hrd
   rw [List.length_map] at hv hlen' hel'
   obtain ⟨rfl, -, rfl⟩ := Value.slice.inj hv
   obtain ⟨ob, off, rfl, _, hobw, hE⟩ := hel' (by have := hjo; omega)
   have hcells : ∀ (q : Nat) y, out[q]? = some y → wr.cell? ⟨ob, off + q, none⟩ = some (.string y) := fun q y hq => by
    obtain ⟨cs, h5, h6, h7⟩ := hE.get q (strDt y) (by simp [hq])
    obtain ⟨rfl, _⟩ := h7
    have := h6 0 _ rfl
    simpa using this
   have Hcells := Lib.hid hcells
   clear heq hje hrd hel' hE hcells
   go_wp2_with fail
   refine (join_any ob off _ out wr (by omega) Hcells.out hobw (by omega) hlen' (fun y hy => by have := Hos.out y hy; omega)).mono ?_
   rintro en w5 ⟨rfl, hc5⟩
   go_wp2_with fail
   go_ret2
   exact ⟨out, nx, Hfin.out, rfl, (hc1.tr hcr).tr hc5, by omega, Hos.out, hnx1, by omega⟩
def sv (a : Addr) : Value := .iface 246 (.pointer (some a))
end Go.Proofs.YtgcmfpcgmkkobaaGreatDoor
