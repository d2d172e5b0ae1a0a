/-
  strings.Builder: what WriteString does to a builder of the call's own, with all that it leaves as it was (the shelf's contract, walked over this translation, whose copyCheck bears a stop).; strings.Join by single blanks (over a builder whose copyCheck bears a stop: by writeString_any).; copy, clear and append within a block that is known whole, for elements of any number of cells.
-/
import Derived.Test.YtgcmfpcgmkkobaaGreatDoorProg
import Derived.Test.YtgcmfpcgmkkobaaGreatDoorRegion
import Derived.Lib.Builder
import Derived.Lib.AppendStr
import Derived.Lib.UnsafeStr
import Derived.Lib.MakeNoZero
import Derived.Laws.Externs
import Derived.Lib.OthersKept
import Derived.Test.YtgcmfpcgmkkobaaGreatDoorShelf
import Derived.Test.YtgcmfpcgmkkobaaGreatDoorWalk
import Derived.Test.YtgcmfpcgmkkobaaGreatDoorTree
import Derived.Test.YtgcmfpcgmkkobaaGreatDoorTreeMore
import Derived.Laws.CopyRow
import Derived.Lib.SliceRun
import Derived.ArgAppend
set_option linter.unusedVariables false
set_option maxHeartbeats 20000000
set_option maxRecDepth 100000
set_option linter.unusedSimpArgs false
namespace Go.Proofs.YtgcmfpcgmkkobaaGreatDoor
open Go.RowKit
theorem bd_size : (Tryz.prog.info? 135).map (·.size) = some 2 := by kernel_rfl
theorem bd_lies : liesAt Tryz.prog Tryz.prog.depth 135 (2 / Tryz.prog.cellsOf 135) 0 135 1 = true := by kernel_rfl
theorem infoByte : (Tryz.prog.info? 5).map (fun i => (i.zero, i.size, i.bytes)) = some (some (.int .u8 0), 1, 1) := by kernel_rfl
abbrev IsB (B b : Nat) (bs : List Value) (w : World) : Prop := Lib.IsBuilder 135 5 B b bs w
abbrev BAt (B b : Nat) (p : Value) (bs : List Value) (w : World) : Prop := Lib.BuilderAt 135 5 B b p bs w
theorem copyCheck_used (b : Nat) (w : World) (h0 : w.cell? ⟨b, 0, none⟩ = some (.pointer (some ⟨b, 0, none⟩))) :
  Calls Tryz.prog 122 #[.pointer (some ⟨b, 0, none⟩)] w fun e w' => e = .returned (.tuple #[]) ∧ w' = w := by
 obtain ⟨j, hj, _⟩ := Option.map_eq_some_iff.1 bd_size
 go_enter Tryz.func122, Tryz.ntmps122
 go_wp2_with fail
 rw [Lib.run_neq_ptr_same w _ Tryz.underlying132 hj]
 go_wp2_with fail
 go_end0
 exact ⟨rfl, rfl⟩
theorem copyCheck_fresh (b : Nat) (w : World) (h0 : w.cell? ⟨b, 0, none⟩ = some (.pointer none)) (hsh : w.shape? b = some (135, 2)) (hfz : w.frozen? ⟨b, 0, none⟩ = false) :
  Calls Tryz.prog 122 #[.pointer (some ⟨b, 0, none⟩)] w fun e w' => e = .returned (.tuple #[]) ∧ w' = w.setCell ⟨b, 0, none⟩ (.pointer (some ⟨b, 0, none⟩)) := by
 obtain ⟨j, hj, hjs⟩ := Option.map_eq_some_iff.1 bd_size
 go_enter Tryz.func122, Tryz.ntmps122
 go_wp2_with fail
 rw [Lib.run_to_unsafe w ⟨b, 0, none⟩ Tryz.underlying132 Tryz.underlying150 hj (by rw [hjs]; decide) hsh (Nat.zero_lt_succ 1)]
 simp only [Result.andThen]
 rw [Oper.upon_value]
 go_wp2_with fail
 rw [run_callFunc_extern Tryz.func149 (by kernel_rfl) (by kernel_rfl) (by kernel_rfl) (e := Extern.AbiNoEscape.same) (by kernel_rfl)]
 rw [Lib.run_noEscape]
 simp only [Result.andThen]
 rw [Oper.upon_value]
 go_wp2_with fail
 rw [Lib.run_from_unsafe w ⟨b, 0, none⟩ Tryz.underlying150 Tryz.underlying132 hj hsh bd_lies]
 simp only [Result.andThen]
 rw [Oper.upon_value]
 go_wp2_with fail
 go_end0
 exact ⟨rfl, rfl⟩
theorem copyCheck_any (B b : Nat) (bs : List Value) (w : World) (h : IsB B b bs w) :
  Calls Tryz.prog 122 #[.pointer (some ⟨b, 0, none⟩)] w fun e w' => e = .returned (.tuple #[]) ∧ BAt B b (.pointer (some ⟨b, 0, none⟩)) bs w' ∧ Chg (RowsOf w 5 B b) w w' := by
 rcases h with h | h
 ·refine (copyCheck_fresh b w h.cell0 h.shape h.frozen0).mono ?_
  rintro e w' ⟨rfl, rfl⟩
  exact ⟨rfl, h.used _, (Chg.refl _ w).setCell (p := ⟨b, 0, none⟩) (.inl ⟨h.1, .inl rfl⟩) _⟩
 ·refine (copyCheck_used b w h.cell0).mono ?_
  rintro e w' ⟨rfl, rfl⟩
  exact ⟨rfl, h, Chg.refl _ _⟩
theorem writeString_any (B b : Nat) (bs : List Value) (s : ByteArray) (w : World) (h : IsB B b bs w) (hlen : bs.length + s.size ≤ 140737488355328) (hBw : B ≤ w.heap.size) :
  Calls Tryz.prog 92 #[.pointer (some ⟨b, 0, none⟩), .string s] w fun e w' => e = .returned (.tuple #[.int .i64 s.size, .nilIface]) ∧ IsB B b (bs ++ Lib.strCells s) w' ∧ Chg (RowsOf w 5 B b) w w' := by
 obtain ⟨i0, hi, hz0, hz1, hz2⟩ := info_parts infoByte
 go_enter Tryz.func92, Tryz.ntmps92
 go_wp2_with fail
 refine (copyCheck_any B b bs w h).mono ?_
 rintro e w1 ⟨rfl, h1, hc1⟩
 obtain ⟨hB, v, hbk, hown, hne⟩ := h1
 have c0 : w1.cell? ⟨b, 0, none⟩ = some (.pointer (some ⟨b, 0, none⟩)) := by rw [Lib.cell_of_heap hbk]; rfl
 have c1 : w1.cell? ⟨b, 1, none⟩ = some v := by rw [Lib.cell_of_heap hbk]; rfl
 go_wp2_with (at_builtin; refine Lib.wpList_append_own_string _ rfl _ _ 133 9 rfl B 5 i0 Tryz.underlying133 Tryz.underlying9 hi hz0 hz1 hz2 _ _ _ rfl hown s rfl ?c3 ?c4 ?c5 ?_)
 case c3 => unfold maxLen; omega
 case c4 => omega
 case c5 => have := hc1.size; omega
 intro v' w2 hown' hgrow _
 have hlt : b < w1.heap.size := lt_of_block hbk
 have hb2 : w2.heap[b]? = some (.cells #[.pointer (some ⟨b, 0, none⟩), v] 135 (0, 0)) := by
  rw [hgrow.block b hlt (fun e => hne e.symm)]
  exact hbk
 have d0 : w2.cell? ⟨b, 0, none⟩ = some (.pointer (some ⟨b, 0, none⟩)) := by rw [Lib.cell_of_heap hb2]; rfl
 have d1 : w2.cell? ⟨b, 1, none⟩ = some v := by rw [Lib.cell_of_heap hb2]; rfl
 have f1 : w2.frozen? ⟨b, 1, none⟩ = false := Lib.frozen_of_heap hb2 1
 obtain ⟨ao, n', cap, rfl⟩ : ∃ ao n' cap, v' = .slice ao n' cap := by
  rcases hown'.2 with ⟨hv, _⟩ | ⟨g, cap, cur, hv, _⟩
  ·exact ⟨_, _, _, hv⟩
  ·exact ⟨_, _, _, hv⟩
 have hrow : ∀ g, v.ownBlock = some g → RowsOf w1 5 B b g := fun g hg => by
  rcases hown.2 with ⟨rfl, _⟩ | ⟨g', cap, cur, rfl, hb', hg', _⟩
  ·cases hg
  ·obtain rfl := Option.some.inj hg
   exact ⟨hb', .inr ⟨_, _, hg'⟩⟩
 go_wp2_with fail
 go_ret2
 refine ⟨rfl, .inr ?_, ?_⟩
 ·exact Lib.BuilderAt.put (T := 135) (e := 5) hB hb2 (bs' := bs ++ Lib.strCells s) (by simpa [Lib.strCells_length] using hown') (by decide)
 ·exact hc1.rows (((Chg.refl _ w1).grown hgrow (fun k hk => .inl (hrow k hk))).setCell (p := ⟨b, 1, none⟩) (.inl ⟨hB, .inl rfl⟩) _)
theorem IsB.keep {B b : Nat} {bs : List Value} {C : Nat → Prop} {w w' : World} (h : IsB B b bs w) (hc : Chg C w w') (hb : ¬ C b) (hrow : ∀ k c fz, B ≤ k → w.heap[k]? = some (.cells c 5 fz) → ¬ C k) : IsB B b bs w' := by
 have key : ∀ p, BAt B b p bs w → BAt B b p bs w' := by
  rintro p ⟨hB, v, hbk, hown, hne⟩
  refine ⟨hB, v, hc.at hbk hb, ⟨hown.1, ?_⟩, hne⟩
  rcases hown.2 with h0 | ⟨g, cap, cur, rfl, hg, hh, r⟩
  ·exact .inl h0
  ·exact .inr ⟨g, cap, cur, rfl, hg, hc.at hh (hrow g _ _ hg hh), r⟩
 exact h.imp (key _) (key _)
theorem IsB.keep0 {B b : Nat} {bs : List Value} {w w' : World} (h : IsB B b bs w) (hc : Chg NoB w w') : IsB B b bs w' := h.keep hc nbE (fun _ _ _ _ _ => nbE)
theorem IsB.lt {B b : Nat} {bs : List Value} {w : World} (h : IsB B b bs w) : b < w.heap.size := h.elim Lib.BuilderAt.lt Lib.BuilderAt.lt
def blanks (r : List ByteArray) : List UInt8 := (r.map fun x => (32 : UInt8) :: x.data.toList).flatten
def joinW : List ByteArray → List UInt8
 | [] => []
 | x :: r => x.data.toList ++ blanks r
theorem blanks_snoc (r : List ByteArray) (x : ByteArray) : blanks (r ++ [x]) = blanks r ++ 32 :: x.data.toList := by simp [blanks]
theorem blanks_len : ∀ (r : List ByteArray), (∀ x ∈ r, x.size ≤ 100000) → (blanks r).length ≤ r.length * 100001
 | [], _ => by simp [blanks]
 | x :: r, h => by
  have h1 := h x (List.mem_cons_self ..)
  have h2 := blanks_len r (fun y hy => h y (List.mem_cons_of_mem _ hy))
  have h3 : x.data.toList.length = x.size := Array.length_toList
  have h4 : (blanks (x :: r)).length = x.data.toList.length + 1 + (blanks r).length := by
   unfold blanks
   rw [List.map_cons, List.flatten_cons, List.length_append, List.length_cons]
  rw [h4, List.length_cons, Nat.succ_mul]
  omega
def JoLen (n : Nat) (vn vi : Value) : Prop := ∃ (k m : Nat), k ≤ n ∧ vi = .int .i64 (k : Nat) ∧ vn = .int .i64 (m : Nat) ∧ m ≤ 100000 + k * 100000
def JoRel (B : Nat) (x0 : ByteArray) (r : List ByteArray) (w : World) (vi : Value) (wr : World) : Prop :=
 ∃ k : Nat, k ≤ r.length ∧ vi = .int .i64 (k : Nat) ∧ IsB B B (Lib.byteCells (x0.data.toList ++ blanks (r.take k))) wr ∧ Chg NoB w wr
theorem join_many (bk o c : Nat) (x0 : ByteArray) (r : List ByteArray) (w : World) (hr1 : 1 ≤ r.length) (hc : ∀ (j : Nat) x, (x0 :: r)[j]? = some x → w.cell? ⟨bk, o + j, none⟩ = some (.string x)) (hbk : bk < w.heap.size) (hn : r.length ≤ 99999) (hcap : r.length + 1 ≤ c)
  (hx : ∀ x ∈ x0 :: r, x.size ≤ 100000) : Calls Tryz.prog 51 #[.slice (some ⟨bk, o, none⟩) (r.length + 1) c, .string ⟨#[32]⟩] w (RetV (.string ⟨(joinW (x0 :: r)).toArray⟩) w) := by
 have Hc := Lib.hid hc
 have Hx := Lib.hid hx
 clear hc hx
 have hdv : ¬ ((9223372036854775807 : Int) / (r.length : Int) ≤ 1) := by
  have h1 : (2 : Int) ≤ 9223372036854775807 / (r.length : Int) := Int.le_ediv_of_mul_le (by omega) (by omega)
  omega
 have hrI : ¬ ((r.length : Int) = 0) := by omega
 go_enter Tryz.func51, Tryz.ntmps51
 go_wp2_with fail
 go_loop [5, 41] (fun vn vi => JoLen (r.length + 1) vn vi) (fun _ vi => r.length + 1 - (intOf vi).toNat)
 case atStart => exact ⟨0, r.length, Nat.zero_le _, rfl, rfl, by omega⟩
 case round =>
  obtain ⟨k, m, hk, rfl, rfl, hm⟩ := hrel
  by_cases hlt : k < r.length + 1
  ·obtain ⟨x, hxk⟩ : ∃ x, (x0 :: r)[k]? = some x := ⟨(x0 :: r)[k], List.getElem?_eq_getElem hlt⟩
   have hcx := Hc.out k x hxk
   have hsz := Hx.out x (List.mem_of_getElem? hxk)
   have hltI : (k : Int) < (r.length : Int) + 1 := by omega
   have hszI : ¬ ((9223372036854775807 : Int) - (m : Int) < (x.size : Int)) := by omega
   clear hxk
   go_wp2_with fail
   refine ⟨⟨k + 1, m + x.size, hlt, by go_num, by go_num, by omega⟩, by simp [intOf]; omega⟩
  ·have hltI : ¬ ((k : Int) < (r.length : Int) + 1) := by omega
   go_wp2_with fail
   refine (Tryz.Builder_Grow_fresh w.heap.size w.heap.size m _ (Nat.le_refl _) (heap_alloc_new w _) (by simp) (by omega)).mono ?_
   rintro en w1 ⟨rfl, hB1, hb1⟩
   have hc1 : Chg NoB w w1 := (Chg.ofBelow ⟨hb1.os, hb1.tape, hb1.output, Nat.le_trans (by simp) hb1.size, fun i hi => (hb1.block i hi).trans (Below.heap_alloc w _ i hi)⟩)
   have hI1 : IsB w.heap.size w.heap.size [] w1 := .inr hB1
   have hc0 : w1.cell? ⟨bk, o, none⟩ = some (.string x0) := (hc1.cell (p := ⟨bk, o, none⟩) hbk nbE).trans (Hc.out 0 x0 rfl)
   have hx0 := Hx.out x0 (List.mem_cons_self ..)
   clear hB1 hb1
   go_wp2_with fail
   refine (writeString_any w.heap.size w.heap.size [] x0 w1 hI1 (by simp; omega) hc1.size).mono ?_
   rintro en w2 ⟨rfl, hI2, hc2⟩
   have hc02 : Chg NoB w w2 := hc1.trans hc2 (fun y e => .inr e.1)
   have hst : ([] : List Value) ++ Lib.strCells x0 = Lib.byteCells (x0.data.toList ++ blanks (r.take 0)) := by simp [blanks, Lib.strCells, Lib.byteCells]
   rw [hst] at hI2
   have HI2 := Lib.hid hI2
   clear hst hI1 hI2 hc2 hc0
   go_wp2_with fail
   go_loopw [65] (fun vi wr => JoRel w.heap.size x0 r w vi wr) (fun vi _ => r.length - (intOf vi).toNat)
   case atStart => exact ⟨0, Nat.zero_le _, rfl, HI2.out, hc02⟩
   case round =>
    obtain ⟨j, hj, rfl, hIj, hcj⟩ := hrel
    have HIj := Lib.hid hIj
    clear hIj
    by_cases hltj : j < r.length
    ·have hxm : r[j]'hltj ∈ x0 :: r := List.mem_cons_of_mem _ (List.getElem_mem hltj)
     have hsz := Hx.out _ hxm
     have hcell := Hc.out (j + 1) (r[j]'hltj) (by rw [List.getElem?_cons_succ]; exact List.getElem?_eq_getElem hltj)
     have htake : r.take (j + 1) = r.take j ++ [r[j]'hltj] := List.take_succ_eq_append_getElem hltj
     have hbl := blanks_len (r.take j) (fun y hy => Hx.out y (List.mem_cons_of_mem _ (List.mem_of_mem_take hy)))
     rw [List.length_take] at hbl
     generalize r[j]'hltj = y at hsz hcell htake
     have hnext : Lib.byteCells (x0.data.toList ++ blanks (r.take j)) ++ Lib.strCells ⟨#[32]⟩ ++ Lib.strCells y = Lib.byteCells (x0.data.toList ++ blanks (r.take (j + 1))) := by
      rw [htake, blanks_snoc]
      simp [Lib.byteCells, Lib.strCells]
     have hl0 : (Lib.byteCells (x0.data.toList ++ blanks (r.take j))).length = x0.size + (blanks (r.take j)).length := by
      have h3 : x0.data.toList.length = x0.size := Array.length_toList
      simp only [Lib.byteCells, List.length_map, List.length_append, h3]
     have Hnext := Lib.hid hnext
     have Hl0 := Lib.hid hl0
     have hcy : wr.cell? ⟨bk, o + (j + 1), none⟩ = some (.string y) := (hcj.cell (p := ⟨bk, o + (j + 1), none⟩) hbk nbE).trans hcell
     have hmin : min j r.length * 100001 ≤ 99999 * 100001 := Nat.mul_le_mul_right _ (by omega)
     have hszw := hcj.size
     have hltI2 : (j : Int) < (r.length : Int) := by omega
     clear hxm htake hnext hl0 hcell
     have hcy2 : wr.cell? ⟨bk, o + 1 + j, none⟩ = some (.string y) := by rw [show o + 1 + j = o + (j + 1) by omega]; exact hcy
     go_wp2_with fail
     refine (writeString_any w.heap.size w.heap.size _ ⟨#[32]⟩ wr HIj.out (by rw [Hl0.out]; show _ + 1 ≤ _; omega) hszw).mono ?_
     rintro en w3 ⟨rfl, hI3, hc3⟩
     have HI3 := Lib.hid hI3
     have hc03 : Chg NoB w w3 := hcj.trans hc3 (fun y e => .inr e.1)
     clear hI3 hc3
     go_wp2_with fail
     refine (writeString_any w.heap.size w.heap.size _ y w3 HI3.out (by rw [List.length_append, Hl0.out, Lib.strCells_length]; show _ + 1 + _ ≤ _; omega) hc03.size).mono ?_
     rintro en w4 ⟨rfl, hI4, hc4⟩
     rw [Hnext.out] at hI4
     have HI4 := Lib.hid hI4
     have hc04 : Chg NoB w w4 := hc03.trans hc4 (fun y e => .inr e.1)
     clear hI4 hc4
     go_wp2_with fail
     refine ⟨⟨j + 1, hltj, by go_num, HI4.out, hc04⟩, by simp [intOf]; omega⟩
    ·have hje : r.take j = r := List.take_of_length_le (by omega)
     have hI9 := HIj.out
     rw [hje] at hI9
     have HI9 := Lib.hid hI9
     have hltI2 : ¬ (j : Int) < (r.length : Int) := by omega
     clear hI9 hje
     go_wp2_with fail
     refine (Tryz.Builder_String_any w.heap.size w.heap.size _ wr HI9.out hcj.size).mono ?_
     rintro en w5 ⟨rfl, hb5⟩
     have hc5 : Chg NoB w w5 := ⟨hb5.os.trans hcj.os, hb5.tape.trans hcj.tape, hb5.output.trans hcj.output, Nat.le_trans hcj.size hb5.size, fun i hi hn => (hb5.block i hi).trans (hcj.block i hi hn)⟩
     go_wp2_with fail
     go_ret
     exact ⟨rfl, hc5⟩
theorem join_one (bk o c : Nat) (x0 : ByteArray) (w : World) (hc : w.cell? ⟨bk, o, none⟩ = some (.string x0)) :
  Calls Tryz.prog 51 #[.slice (some ⟨bk, o, none⟩) 1 c, .string ⟨#[32]⟩] w (RetV (.string ⟨(joinW [x0]).toArray⟩) w) := by
 go_enter Tryz.func51, Tryz.ntmps51
 go_wp2_with fail
 go_ret
 refine ⟨?_, Chg.refl _ _⟩
 show Ending.returned (Value.string x0) = _
 simp [joinW, blanks]
theorem join_any (bk o c : Nat) (xs : List ByteArray) (w : World) (h1 : 1 ≤ xs.length) (hc : ∀ (j : Nat) x, xs[j]? = some x → w.cell? ⟨bk, o + j, none⟩ = some (.string x)) (hbk : bk < w.heap.size) (hn : xs.length ≤ 100000) (hcap : xs.length ≤ c)
  (hx : ∀ x ∈ xs, x.size ≤ 100000) : Calls Tryz.prog 51 #[.slice (some ⟨bk, o, none⟩) xs.length c, .string ⟨#[32]⟩] w (RetV (.string ⟨(joinW xs).toArray⟩) w) := by
 match xs, h1, hc, hn, hcap, hx with
 | [x], _, hc, _, _, _ => exact join_one bk o c x w (hc 0 x rfl)
 | x :: y :: r, _, hc, hn, hcap, hx => exact join_many bk o c x (y :: r) w (by simp) hc hbk (by simp only [List.length_cons] at hn ⊢; omega) (by simpa using hcap) hx
theorem setRow_chg (w : World) (g : Nat) (a : Array Value) : Chg (OneB g) w (w.setRow g a) :=
 ⟨rfl, rfl, rfl, by simp [World.setRow], fun k hk hn => by
  have hne : g ≠ k := fun e => hn e.symm
  simp [World.setRow, Array.getElem?_modify, hne]⟩
structure Mid (w : World) (g : Nat) (pre news post : List Value) (t : TypeId) (w' : World) : Prop where
 blk : Blk w' g (pre ++ (news ++ post)) t
 chg : Chg (OneB g) w w'
section
variable {P : Program}
theorem run_store_mid (w : World) {g : Nat} {pre mid post news : List Value} {t : TypeId} (hb : Blk w g (pre ++ (mid ++ post)) t) (hl : mid.length = news.length) (h1 : ∀ v ∈ news, v.oneCell' = true) :
  ∃ w', (storeCells ⟨g, pre.length, none⟩ news 0).run P w = .ok () w' ∧ Mid w g pre news post t w' := by
 have h := run_storeCells_at P g pre.length t news 0 (pre ++ (mid ++ post)).toArray w hb (by simp [hl]) h1
 refine ⟨_, h, ?_, setRow_chg w g _⟩
 have e : ((pre ++ (mid ++ post)).toArray.toList.take (pre.length + 0) ++ news ++ (pre ++ (mid ++ post)).toArray.toList.drop (pre.length + 0 + news.length)) = pre ++ (news ++ post) := by
  simp only [List.toList_toArray, Nat.add_zero, List.take_left, List.append_assoc]
  rw [← List.append_assoc pre mid post, List.drop_left' (by simp [hl])]
 have h2 := setRow_heap w g _ ((pre ++ (mid ++ post)).toArray.toList.take (pre.length + 0) ++ news ++ (pre ++ (mid ++ post)).toArray.toList.drop (pre.length + 0 + news.length)).toArray t (0, 0) hb
 rw [e] at h2
 rw [e]
 exact h2
theorem run_copy_mid (w : World) (dT sT ty elem : TypeId) {k : Nat} (hu : P.underlying dT = some (.slice elem)) (hs : (P.info? elem).map (·.size) = some k) {g dLen dCap : Nat} {a : Addr} {sLen sCap : Nat} {pre mid post news : List Value} {t : TypeId}
  (hb : Blk w g (pre ++ (mid ++ post)) t) (hn : news.length = Nat.min sLen dLen * k) (hsrc : ∀ j v, news[j]? = some v → w.cell? (a.add j) = some v) (hl : mid.length = news.length) (h1 : ∀ v ∈ news, v.oneCell' = true) :
  ∃ w', (Builtin.copy_ #[dT, sT] ty #[.slice (some ⟨g, pre.length, none⟩) dLen dCap, .slice (some a) sLen sCap]).run P w = .ok (goInt (Nat.min sLen dLen)) w' ∧ Mid w g pre news post t w' := by
 have h2 := run_loadCells_list (P := P) w a news hsrc
 obtain ⟨w', hst, hm⟩ := run_store_mid (P := P) w hb hl h1
 refine ⟨w', ?_, hm⟩
 cases hq : P.info? elem with
 | none => simp [hq] at hs
 | some i =>
  have hi : i.size = k := by simpa [hq] using hs
  rw [hn] at h2
  simp [Builtin.copy_, run_underlying hu, Builtin.lenOf, Builtin.firstCells, sizeOf, typeInfo, hq, hi, h2, hst]
theorem run_clear_mid (w : World) (tS e ty : TypeId) {z : Value} (ht : P.underlying tS = some (.slice e)) (hv : ∀ w, (zeroValue e).run P w = .ok z w) {n : Nat} (h1 : ∀ v ∈ (Builtin.zeroCells z.cells n).toList, v.oneCell' = true) {g c : Nat} {pre mid post : List Value} {t : TypeId}
  (hb : Blk w g (pre ++ (mid ++ post)) t) (hl : mid.length = n * z.cells.size) :
  ∃ w', (Builtin.clear_ #[tS] ty #[.slice (some ⟨g, pre.length, none⟩) n c]).run P w = .ok (.tuple #[]) w' ∧ Mid w g pre (Builtin.zeroCells z.cells n).toList post t w' := by
 have hlz : (Builtin.zeroCells z.cells n).toList.length = n * z.cells.size := by simp [Builtin.zeroCells]
 obtain ⟨w', hst, hm⟩ := run_store_mid (P := P) w hb (hl.trans hlz.symm) h1
 cases n with
 | zero =>
  have hmid : mid = [] := List.eq_nil_of_length_eq_zero (by simpa using hl)
  subst hmid
  have hz0 : (Builtin.zeroCells z.cells 0).toList = [] := List.eq_nil_of_length_eq_zero (by simpa using hlz)
  refine ⟨w, ?_, by rw [hz0]; exact ⟨hb, Chg.refl _ _⟩⟩
  simp [Builtin.clear_, run_underlying ht]
 | succ n =>
  refine ⟨w', ?_, hm⟩
  simp [Builtin.clear_, run_underlying ht, hv, hst]
theorem run_append_mid (w : World) (t ty e : TypeId) (i : TypeInfo) (ht : P.underlying t = some (.slice e)) (hi : P.info? e = some i) {g n cap : Nat} {a : Addr} {m c : Nat} {pre mid post news : List Value} {t' : TypeId}
  (hb : Blk w g (pre ++ (mid ++ post)) t') (hp : pre.length = n * i.size) (hl : news.length = m * i.size) (hm : mid.length = news.length) (hnews : ∀ j v, news[j]? = some v → w.cell? (a.add j) = some v) (h1 : ∀ v ∈ news, v.oneCell' = true) (hroom : n + m ≤ cap) :
  ∃ w', (Builtin.append_ #[t, t] ty #[.slice (some ⟨g, 0, none⟩) n cap, .slice (some a) m c]).run P w = .ok (.slice (some ⟨g, 0, none⟩) (n + m) cap) w' ∧ Mid w g pre news post t' w' := by
 have hfc := run_firstCells_some (P := P) w i.size m a m c news hl hnews
 obtain ⟨w', hst, hmid⟩ := run_store_mid (P := P) w hb hm h1
 rw [hp] at hst
 refine ⟨w', ?_, hmid⟩
 have hadd : (⟨g, 0, none⟩ : Addr).add (n * i.size) = ⟨g, n * i.size, none⟩ := by rw [Addr.add_lit, Nat.zero_add]
 simp [Builtin.append_, run_underlying ht, sizeOf, typeInfo, hi, Builtin.lenOf, hroom, hfc, hadd, hst]
variable {w : World} {ops : Array Oper} {rest : List Oper} {o : Oper} {a : Act} {Q : Exit → Act → World → Prop}
theorem wpList_copy_run (hgd : o.guard = none) (d s : Operand) (t t' : TypeId) (ho : o.op = .call { callee := .builtin .copy, args := #[d, s], argTypes := #[t, t'] }) (v u : Value) (hd : a.eval d = v) (hs : a.eval s = u) {v' : Value} {w' : World}
  (hr : (Builtin.copy_ #[t, t'] o.type #[v, u]).run P w = .ok v' w') (h : wpList P ops Q rest (a.put o.dst v') w') : wpList P ops Q (o :: rest) a w :=
 wpList_plain hgd fun _ hK => by
  unfold Oper.wp execOp
  simp only [ho, resolve, invoke, builtin, Sem.run_bind, Sem.run_pure, Result.andThen_ok, List.map_toArray, List.map_cons, List.map_nil, hd, hs, hr]
  exact hK _ _ h
theorem wpList_append_run (hgd : o.guard = none) (d s : Operand) (t t' : TypeId) (ho : o.op = .call { callee := .builtin .append, args := #[d, s], argTypes := #[t, t'] }) (v u : Value) (hd : a.eval d = v) (hs : a.eval s = u) {v' : Value} {w' : World}
  (hr : (Builtin.append_ #[t, t'] o.type #[v, u]).run P w = .ok v' w') (h : wpList P ops Q rest (a.put o.dst v') w') : wpList P ops Q (o :: rest) a w :=
 wpList_plain hgd fun _ hK => by
  unfold Oper.wp execOp
  simp only [ho, resolve, invoke, builtin, Sem.run_bind, Sem.run_pure, Result.andThen_ok, List.map_toArray, List.map_cons, List.map_nil, hd, hs, hr]
  exact hK _ _ h
theorem wpList_copy_ex (hgd : o.guard = none) (d s : Operand) (t t' : TypeId) (ho : o.op = .call { callee := .builtin .copy, args := #[d, s], argTypes := #[t, t'] }) (v u : Value) (hd : a.eval d = v) (hs : a.eval s = u) {v' : Value} {R : World → Prop}
  (hr : ∃ w', (Builtin.copy_ #[t, t'] o.type #[v, u]).run P w = .ok v' w' ∧ R w') (h : ∀ w', R w' → wpList P ops Q rest (a.put o.dst v') w') : wpList P ops Q (o :: rest) a w := by
 obtain ⟨w', h1, h2⟩ := hr
 exact wpList_copy_run hgd d s t t' ho v u hd hs h1 (h w' h2)
theorem wpList_append_ex (hgd : o.guard = none) (d s : Operand) (t t' : TypeId) (ho : o.op = .call { callee := .builtin .append, args := #[d, s], argTypes := #[t, t'] }) (v u : Value) (hd : a.eval d = v) (hs : a.eval s = u) {v' : Value} {R : World → Prop}
  (hr : ∃ w', (Builtin.append_ #[t, t'] o.type #[v, u]).run P w = .ok v' w' ∧ R w') (h : ∀ w', R w' → wpList P ops Q rest (a.put o.dst v') w') : wpList P ops Q (o :: rest) a w := by
 obtain ⟨w', h1, h2⟩ := hr
 exact wpList_append_run hgd d s t t' ho v u hd hs h1 (h w' h2)
end
def zeroAgg : Value := .agg #[.int .i64 0, .string ⟨#[]⟩, .int .i64 0, .int .i64 0, .slice none 0 0]
theorem zero_nodeV (w : World) : (zeroValue 28).run Tryz.prog w = .ok zeroAgg w := by kernel_rfl
theorem zero_one (n : Nat) : ∀ v ∈ (Builtin.zeroCells zeroAgg.cells n).toList, v.oneCell' = true := by
 intro v hv
 simp only [Builtin.zeroCells, Array.toList_map, List.mem_map] at hv
 obtain ⟨i, hi, rfl⟩ := hv
 have h5 : i % zeroAgg.cells.size < 5 := Nat.mod_lt _ (by decide)
 generalize i % zeroAgg.cells.size = q at h5
 have : q = 0 ∨ q = 1 ∨ q = 2 ∨ q = 3 ∨ q = 4 := by omega
 rcases this with rfl | rfl | rfl | rfl | rfl <;> rfl
theorem zero_five : zeroAgg.cells.size = 5 := rfl
end Go.Proofs.YtgcmfpcgmkkobaaGreatDoor
