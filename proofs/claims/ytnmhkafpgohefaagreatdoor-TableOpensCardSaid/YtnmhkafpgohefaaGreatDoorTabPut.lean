/-
  table: put one text on a disk without files.; Numbers of 7 bits a byte are written: shredcolref1.Seven, Long; wire.Uvarint, Text.; Numbers of so many bytes, the lowest first: shredcolref1.Little, ReadLittle; wire.Fixed, ReadFixed.; wire.table, Sum: the sum of bytes by a table.; wire.Sum: the sum of bytes by a table.; table: Files, Snapshots and Edits of a table without edits and with one snapshot 
-/
import Derived.Test.YtnmhkafpgohefaaGreatDoorSevLaw
import Derived.Test.YtnmhkafpgohefaaGreatDoorTxtR
import Derived.Deep.DeepCutAuto
import Derived.Lib.VarintMem
import Derived.Laws.MakeOwn
import Derived.Deep.WholeRow
import Derived.Deep.OwnRows
set_option linter.unusedVariables false
set_option maxHeartbeats 20000000
set_option maxRecDepth 100000
set_option linter.unusedSimpArgs false
namespace Go.Proofs.YtnmhkafpgohefaaGreatDoor
open Go.RowKit Go.Maps
theorem put_new (tb nb xb cn cx db mb n : Nat) (s : ByteArray) (l : List UInt8) (w : World) (steps : Int) (A : Nat → Addr) (hS : Sents w A) (hd : Blk w db (dkCells steps 0 mb) 46) (hm : FM w mb n noneD) (hs : s.size ≤ maxLen) (hok : nameD s = true) (hne : l ≠ []) (hl : l.length ≤ 100000) (h0 : 0 ≤ steps) (h1 : steps ≤ 1000000) (hn : n ≤ 1000000) (hdm : db ≠ mb)
  (ht : w.cell? ⟨tb, 3, none⟩ = some (.pointer (some ⟨db, 0, none⟩))) (hnm : w.cell? ⟨nb, 0, none⟩ = some (.string s)) (hx : w.cell? ⟨xb, 0, none⟩ = some (.string ⟨l.toArray⟩)) (h2 : tb ≠ db ∧ tb ≠ mb) (h3 : nb ≠ db ∧ nb ≠ mb) (h4 : xb ≠ db ∧ xb ≠ mb) :
  Calls Tryz.prog 40 #[.pointer (some ⟨tb, 0, none⟩), .slice (some ⟨nb, 0, none⟩) 1 cn, .slice (some ⟨xb, 0, none⟩) 1 cx] w (fun en w' => en = .returned .nilIface ∧ ∃ v, FM w' mb (n + l.length) (oneD s v) ∧ Own w' w.heap.size 5 1 (fun _ => False) v (l.map byDt) ∧ Blk w' db (dkCells (steps + l.length) l.length mb) 46 ∧ Chg (TwoD db mb) w w') := by
 have htl := lt_cell ht
 have hnl := lt_cell hnm
 have hxl := lt_cell hx
 go_enter Tryz.func40, Tryz.ntmps40
 go_wp2_with fail
 refine wp_loop_rounds 2 ?_
 rw [rounds_succ]
 go_wp2_with fail
 refine (readD_miss db mb n noneD s w steps 0 A hd hm hs rfl hS).mono ?_
 rintro en w1 ⟨rfl, hc1⟩
 have ht1 := (hc1.cell htl nbE).trans ht
 have hx1 := (hc1.cell hxl nbE).trans hx
 have hd1 := hd.keep hc1 nbE
 have hm1 := hm.keep hc1 nbE
 unfold sv
 go_wp2_with fail
 refine wp_region_n (fun w' => w'.cell? ⟨tb, 3, none⟩ = some (.pointer (some ⟨db, 0, none⟩)) ∧ w'.cell? ⟨xb, 0, none⟩ = some (.string ⟨l.toArray⟩)) [] (by kernel_rfl) ?_ (fun hSh => ?_)
 ·exact ⟨ht1, hx1⟩
 refine n_from 0 ?_
 intro htk
 iterate 9
  refine n_tB (v := ?_) htk rfl (Or.inl ⟨by rfl, ?_⟩) ?_
  rotate_left 1
  ·(intro w' hSw; (try dsimp only at hSw); go_simp; try with_reducible rfl)
  clear htk
  intro htk
  simp only [Nat.reduceAdd] at htk
  simp only [Act.put, qA, qB, qC, qD, qE, qF]
 clear htk
 refine n_step 9 rfl (by kernel_rfl) ?_
 go_wp2_with fail
 refine (appendD_new db mb n s l w1.drew steps hd1 hm1.drew hs hok hne hl h0 h1 hn hdm).mono ?_
 rintro en w2 ⟨rfl, v, hm2, ho2, hd2, hc2⟩
 have hc2' : Chg (TwoD db mb) w1 w2 := hc2.ofDrew
 have ht2 := (hc2'.cell (p := ⟨tb, 3, none⟩) (lt_cell ht1) (fun e => e.elim h2.1 h2.2)).trans ht1
 have hx2 := (hc2'.cell (p := ⟨xb, 0, none⟩) (lt_cell hx1) (fun e => e.elim h4.1 h4.2)).trans hx1
 have hc02 : Chg (TwoD db mb) w w2 := (hc1.mono (fun _ _ h => h.elim)).trans hc2' (fun i h => .inl h)
 have Hm2 := Lib.hid hm2
 have Ho2 := Lib.hid (ho2.mono (B' := w.heap.size) (S' := fun _ => False) hc1.size (fun _ h => h))
 have Hd2 := Lib.hid hd2
 clear hm2 ho2 hd2
 go_wp2_with fail
 refine ⟨fun _ => ⟨ht2, hx2⟩, fun hSk => ?_⟩
 replace hSk := hSk (by rfl)
 refine n_step 10 rfl (by kernel_rfl) ?_
 go_wp2_with fail
 refine ⟨fun _ => ⟨ht2, hx2⟩, fun hSk => ?_⟩
 replace hSk := hSk (by rfl)
 refine n_done (by kernel_rfl) ?_
 go_wp2_with fail
 rw [rounds_succ]
 go_wp2_with fail
 go_ret
 exact ⟨rfl, v, Hm2.out, Ho2.out, Hd2.out, hc02⟩
open Go.RowKit
def UvRel (x : Nat) (w : World) (vn vb : Value) (wr : World) : Prop := ∃ (y : Nat) (pre : List UInt8), vn = .int .u64 (y : Nat) ∧ y ≤ x ∧ Lib.uvarint x = pre ++ Lib.uvarint y ∧ wr.ownsRow w.heap.size 5 1 vb pre.length (Lib.byteCells pre) ∧ Below w.heap.size w wr
theorem uvarint_any (x : Nat) (w : World) (hx : x < 18446744073709551616) : Calls Tryz.prog 85 #[.int .u64 (x : Nat)] w (RetV (.string ⟨(Lib.uvarint x).toArray⟩) w) := by
 obtain ⟨i0, hi, hz0, hz1, hz2⟩ := info_parts infoByte
 have hlen := Lib.uvarint_length64 hx
 go_enter Tryz.func85, Tryz.ntmps85
 go_wp2_with fail
 go_loopw [0, 3] (UvRel x w) (fun vn _ _ => (intOf vn).toNat)
 case atStart => exact ⟨x, [], rfl, Nat.le_refl _, rfl, World.ownsRow_nil _ _ _ _, Below.refl _ _⟩
 case round =>
  obtain ⟨y, pre, rfl, hy, hsplit, hown1, hnx⟩ := hrel
  have hpl : pre.length + (Lib.uvarint y).length ≤ 10 := by
   have h2 := congrArg List.length hsplit
   rw [List.length_append] at h2
   omega
  have hyp := Lib.uvarint_pos y
  have Hs := Lib.hid hsplit
  clear hsplit hlen
  by_cases h128 : 128 ≤ y
  ·have h1 : (128 : Int) ≤ (y : Int) := by omega
   have hor : bits .or .u8 ((y : Int) % 256) 128 = ((y % 128 + 128 : Nat) : Int) := by
    rw [Lib.u8_or128_any _ (by omega) (by omega)]
    omega
   go_wp2_with (at_builtin; refine wpList_append_own _ rfl _ _ 63 rfl w.heap.size 5 i0 (.int .u8 0) 1 1 Tryz.underlying63 hi hz0 hz1 hz2 rfl (by decide) _ _ _ rfl (hown1.alloc _) ⟨wr.heap.size, 0, none⟩ 1 1 [Value.int .u8 ((y % 128 + 128 : Nat) : Int)] rfl rfl ?c1 ?c2 ?c3 ?c4 ?c5 ?_)
   case c1 =>
    intro j u hj
    match j, hj with
    | 0, hj => simp at hj; subst hj; simp [Addr.add]
   case c2 => intro u hu; simp at hu; subst hu; rfl
   case c3 => unfold maxLen; omega
   case c4 => omega
   case c5 => have := hnx.size; simp; omega
   intro v' w1 hown' hgrow _
   have hnx1 : Below w.heap.size w w1 := (hnx.alloc (by have := hnx.size; omega) _).grown hgrow (by have := hnx.size; simp; omega) (fun k hk => (hown1.lt k hk).1)
   go_wp2_with fail
   go_roundw
   case rel =>
    refine ⟨y / 128, pre ++ [(y % 128 + 128).toUInt8], by go_num, by omega, by rw [Hs.out, Lib.uvarint_big h128]; simp, ?_, hnx1⟩
    rw [Lib.byteCells_snoc pre (by omega), List.length_append, List.length_singleton]
    exact hown'
   case measure => simp [intOf]; omega
  ·have h1 : ¬ (128 : Int) ≤ (y : Int) := by omega
   have hsm : Lib.uvarint y = [y.toUInt8] := Lib.uvarint_small (by omega)
   have Hsm := Lib.hid hsm
   clear hsm
   go_wp2_with (at_builtin; refine wpList_append_own _ rfl _ _ 63 rfl w.heap.size 5 i0 (.int .u8 0) 1 1 Tryz.underlying63 hi hz0 hz1 hz2 rfl (by decide) _ _ _ rfl (hown1.alloc _) ⟨wr.heap.size, 0, none⟩ 1 1 [Value.int .u8 (y : Int)] rfl rfl ?d1 ?d2 ?d3 ?d4 ?d5 ?_)
   case d2 => first | rfl | (intro u hu; simp at hu; subst hu; rfl)
   case d3 => unfold maxLen; omega
   case d4 => omega
   case d5 => have := hnx.size; simp; omega
   intro v' w1 hown' hgrow hnil
   have hnx1 : Below w.heap.size w w1 := (hnx.alloc (by have := hnx.size; omega) _).grown hgrow (by have := hnx.size; simp; omega) (fun k hk => (hown1.lt k hk).1)
   have hcs : Lib.byteCells pre ++ [Value.int .u8 (y : Int)] = Lib.byteCells (Lib.uvarint x) := by
    rw [Hs.out, Hsm.out, Lib.byteCells_snoc pre (by omega)]
   have hln : pre.length + 1 = (Lib.uvarint x).length := by rw [Hs.out, Hsm.out]; simp
   rw [hcs, hln] at hown'
   have hne : Lib.uvarint x ≠ [] := fun e => by rw [e] at hln; simp at hln
   have hcv := own_string hown' hne
   obtain ⟨ao, cap, rfl⟩ : ∃ ao cap, v' = .slice ao (Lib.uvarint x).length cap := by
    rcases hown'.2 with ⟨rfl, h0⟩ | ⟨g, cap, cur, rfl, _⟩
    ·exact ⟨none, 0, by rw [h0]⟩
    ·exact ⟨_, _, rfl⟩
   clear hcs hln hne hnil
   go_wp2_with fail
   go_ret
   exact ⟨rfl, Chg.ofBelow hnx1⟩
theorem wtext_any (s : ByteArray) (w : World) (hs : s.size ≤ 9000000000000000000) : Calls Tryz.prog 86 #[.string s] w (RetV (.string ⟨(longL s.data.toList).toArray⟩) w) := by
 have hlen := Lib.uvarint_length64 (x := s.size) (by omega)
 have hd : s.data.toList.length = s.size := Array.length_toList
 have H : (⟨(Lib.uvarint s.size).toArray⟩ : ByteArray) ++ s = ⟨(longL s.data.toList).toArray⟩ := by
  rw [bcat1, longL, hd]
 have HH := Lib.hid H
 clear H hd
 go_enter Tryz.func86, Tryz.ntmps86
 go_wp2_with fail
 refine (uvarint_any _ w (by omega)).mono ?_
 rintro en w1 ⟨rfl, hc1⟩
 go_wp2_with fail
 go_ret
 exact ⟨by rw [← HH.out]; rfl, hc1⟩
theorem leL_snoc : ∀ (k n : Nat), leL (k + 1) n = leL k n ++ [(n / 256 ^ k % 256).toUInt8]
 | 0, n => by simp [leL]
 | k + 1, n => by
  have h := leL_snoc k (n / 256)
  have e : n / 256 ^ (k + 1) = n / 256 / 256 ^ k := by rw [Nat.div_div_eq_div_mul, Nat.pow_succ, Nat.mul_comm]
  rw [leL, h, e]
  rfl
theorem leV_le {l : List UInt8} {k : Nat} (h : l.length ≤ k) : leV l < 256 ^ k := Nat.lt_of_lt_of_le (leV_lt l) (Nat.pow_le_pow_right (by decide) h)
theorem made_bytes (n : Nat) : madeCells #[.int .u8 0] n = (List.replicate n (Value.int .u8 0)).toArray := by
 apply Array.ext_getElem?
 intro i
 by_cases h : i < n
 ·simp [madeCells, h, Nat.mod_one]
 ·simp [madeCells, h]
theorem pow_256 (k : Nat) : (2 : Nat) ^ (8 * k) = 256 ^ k := by rw [Nat.pow_mul]
theorem fx_byte (n i : Nat) : Value.int .u8 ((n : Int) / 2 ^ (8 * i) % 256) = Value.int .u8 (((n / 256 ^ i % 256).toUInt8).toNat : Nat) := by
 have h1 : ((n : Int) / 2 ^ (8 * i) % 256) = ((n / 2 ^ (8 * i) % 256 : Nat) : Int) := by simp
 have h2 : ((n / 256 ^ i % 256).toUInt8).toNat = n / 256 ^ i % 256 := by simp
 rw [h1, h2, pow_256]
theorem fx_set (k n i : Nat) (h : i < k) (v : Value) (hv : v = .int .u8 (((n / 256 ^ i % 256).toUInt8).toNat : Nat)) :
  (Lib.byteCells (leL i n) ++ List.replicate (k - i) (Value.int .u8 0)).set i v = Lib.byteCells (leL (i + 1) n) ++ List.replicate (k - (i + 1)) (.int .u8 0) := by
 have hl : (Lib.byteCells (leL i n)).length = i := by rw [Lib.byteCells_length, leL_length]
 rw [show k - i = (k - (i + 1)) + 1 from by omega, List.replicate_succ, List.set_append_right _ _ (by omega), hl, Nat.sub_self, qE, leL_snoc, Lib.byteCells_append, hv, List.append_assoc]
 rfl
def FxRel (k n b : Nat) (w : World) (vi : Value) (wr : World) : Prop := ∃ i : Nat, i ≤ k ∧ vi = .int .i64 (i : Nat) ∧ Blk wr b (Lib.byteCells (leL i n) ++ List.replicate (k - i) (.int .u8 0)) 5 ∧ Chg NoB w wr
theorem fixed_any (k n : Nat) (w : World) (hk1 : 1 ≤ k) (hk : k ≤ 8) (hn : n < 256 ^ k) : Calls Tryz.prog 87 #[.int .u64 (n : Nat), .int .i64 (k : Nat)] w (RetV (.tuple #[.string ⟨(leL k n).toArray⟩, .nilIface]) w) := by
 obtain ⟨i0, hi, hz0, hz1, hz2⟩ := info_parts infoByte
 have hmk := run_make (P := Tryz.prog) w 63 5 i0 (.int .u8 0) Tryz.underlying63 hi hz0 .i64 .i64 (k : Int) (k : Int) (by omega) (by omega) (by rw [hz2]; omega) (by omega)
 rw [hz1, Int.toNat_natCast, Nat.mul_one, show (Value.int .u8 0).cells = #[.int .u8 0] from rfl, made_bytes] at hmk
 have hk1' : (1 : Int) ≤ (k : Int) := by omega
 have hk' : (k : Int) ≤ 8 := by omega
 have hka : decide ((k : Int) < 1) = false := by simp; omega
 have hkb : decide ((8 : Int) < (k : Int)) = false := by simp; omega
 have hsh : decide ((0 : Int) < (n : Int) / 2 ^ (8 * k)) = false := by
  have e : ((n : Int) / 2 ^ (8 * k)) = ((n / 2 ^ (8 * k) : Nat) : Int) := by simp
  rw [e, pow_256, Nat.div_eq_of_lt hn]
  rfl
 have hn64 : n < 18446744073709551616 := Nat.lt_of_lt_of_le hn (Nat.le_trans (Nat.pow_le_pow_right (by decide) hk) (by decide))
 go_enter Tryz.func87, Tryz.ntmps87
 go_upto_region 1 with fail
 go_cut [24] (fun v wx => v = .bool false ∧ wx = w)
 case first =>
  by_cases h8 : k < 8
  ·have h8' : decide ((k : Int) < 8) = true := by simp; omega
   go_wp2_with fail
   go_meet
   exact ⟨rfl, rfl⟩
  ·have h8' : decide ((k : Int) < 8) = false := by simp; omega
   go_wp2_with fail
   go_meet
   exact ⟨rfl, rfl⟩
 case rest =>
 obtain ⟨rfl, rfl⟩ := hcut
 clear hsh hka hkb
 go_wp2_with fail
 rw [← List.toArray_replicate]
 generalize hw1 : World.alloc _ _ = w1
 have hc1 : Chg NoB wc w1 := by
  rw [← hw1]
  repeat (first | exact Chg.refl _ _ | apply Chg.alloc | apply Chg.drew)
 have hb1 : Blk w1 (wc.heap.size) ((List.replicate k (.int .u8 0))) 5 := by
  rw [← hw1]
  repeat (first | exact Blk.newAt (by first | rfl | (simp; done) | (simp; omega)) | apply Blk.alloc | apply Blk.drew)
 clear hw1 hmk
 go_loopw [30] (FxRel k n wc.heap.size wc) (fun vi _ => k - (intOf vi).toNat)
 case atStart => exact ⟨0, by omega, rfl, by simpa [leL, Lib.byteCells] using hb1, hc1⟩
 case round =>
  obtain ⟨i, hi, rfl, hb, hc⟩ := hrel
  have hlen : (Lib.byteCells (leL i n) ++ List.replicate (k - i) (Value.int .u8 0)).length = k := by
   rw [List.length_append, Lib.byteCells_length, leL_length, List.length_replicate]; omega
  have Hlen := Lib.hid hlen
  clear hlen
  by_cases hlt : i < k
  ·have hlt' : (i : Int) < (k : Int) := by omega
   have c0 : wr.cell? ⟨wc.heap.size, i, none⟩ = some ((Lib.byteCells (leL i n) ++ List.replicate (k - i) (Value.int .u8 0))[i]'(by rw [Hlen.out]; exact hlt)) := (hb.cell i).trans (List.getElem?_eq_getElem _)
   have f0 : wr.frozen? ⟨wc.heap.size, i, none⟩ = false := hb.free i
   generalize (Lib.byteCells (leL i n) ++ List.replicate (k - i) (Value.int .u8 0))[i]'(by rw [Hlen.out]; exact hlt) = old at c0
   go_wp2_with fail
   go_roundw
   case rel =>
    refine ⟨i + 1, by omega, by go_num, ?_, hc.setCell (p := ⟨wc.heap.size, i, none⟩) (.inr (Nat.le_refl _)) _⟩
    have h2 := hb.set i (Value.int .u8 ((n : Int) / 2 ^ (8 * i) % 256))
    rw [fx_set k n i hlt _ (fx_byte n i)] at h2
    exact h2
   case measure => simp [intOf]; omega
  ·have hlt' : ¬ (i : Int) < (k : Int) := by omega
   obtain rfl : i = k := by omega
   rw [Nat.sub_self, List.replicate_zero, List.append_nil] at hb
   have hcv : (convert 63 9 (.slice (some ⟨wc.heap.size, 0, none⟩) i i)).run Tryz.prog wr = .ok (.string ⟨(leL i n).toArray⟩) wr := by
    have h3 := run_convert_bytes_back (P := Tryz.prog) wr 63 9 5 ⟨wc.heap.size, 0, none⟩ i (leL i n) Tryz.underlying63 Tryz.underlying5 Tryz.underlying9 (fun j hj => by
     rw [show (⟨wc.heap.size, 0, none⟩ : Addr).add j = ⟨wc.heap.size, j, none⟩ from by unfold Addr.add; split <;> simp_all, hb.cell j]
     simp [Lib.byteCells, List.getElem?_eq_getElem hj])
    rw [leL_length] at h3
    exact h3
   go_wp2_with fail
   go_ret2
   exact ⟨rfl, hc⟩
theorem fx_or {i acc c : Nat} (hi : i ≤ 7) (ha : acc < 256 ^ i) (hc : c < 256) : bits .or .u64 (acc : Int) (IntKind.u64.wrap ((c : Int) * 2 ^ (8 * i))) = ((acc + c * 256 ^ i : Nat) : Int) := by
 rw [← pow_256] at ha ⊢
 have h3 : 2 ^ (8 * i) ≤ 2 ^ 56 := Nat.pow_le_pow_right (by decide) (by omega)
 have h4 : c * 2 ^ (8 * i) ≤ 255 * 2 ^ (8 * i) := Nat.mul_le_mul_right _ (by omega)
 have e : ((c : Int) * 2 ^ (8 * i)) = ((c * 2 ^ (8 * i) : Nat) : Int) := by simp
 have e56 : (2 : Nat) ^ 56 = 72057594037927936 := by decide
 rw [e56] at h3
 have ew : IntKind.u64.wrap ((c : Int) * 2 ^ (8 * i)) = ((c * 2 ^ (8 * i) : Nat) : Int) := by
  rw [e]; exact IntWalk.u64_in _ (by omega)
 have ha' : (acc : Int) < 2 ^ (8 * i) := by exact_mod_cast ha
 have hm : ((c * 2 ^ (8 * i) : Nat) : Int) % 2 ^ (8 * i) = 0 := by
  have : (c * 2 ^ (8 * i)) % 2 ^ (8 * i) = 0 := Nat.mul_mod_left _ _
  exact_mod_cast this
 have h64 : (2 : Int) ^ 64 = 18446744073709551616 := by decide
 rw [ew, bits_join_low .u64 64 (by decide) wraps_u64 (8 * i) acc _ (by omega) ha' (by rw [h64]; omega) (by omega) hm (by rw [h64]; omega)]
 omega
def RfRel (l : List UInt8) (vn vi : Value) : Prop := ∃ i : Nat, i ≤ l.length ∧ vi = .int .i64 (i : Nat) ∧ vn = .int .u64 (leV (l.take i) : Nat)
theorem readFixed_any (s : ByteArray) (k : Nat) (w : World) (hk1 : 1 ≤ k) (hk : k ≤ 8) (hs : k ≤ s.size) (hb : s.size ≤ 9000000000000000000) : Calls Tryz.prog 25 #[.string s, .int .i64 (k : Nat)] w (RetV (.tuple #[.int .u64 (leV (s.data.toList.take k) : Nat), .nilIface]) w) := by
 have hl : (s.data.toList.take k).length = k := by rw [List.length_take, size_list]; omega
 have hka : decide ((k : Int) < 1) = false := by simp; omega
 have hkb : decide ((8 : Int) < (k : Int)) = false := by simp; omega
 have hkc : ¬ (s.size : Int) < (k : Int) := by omega
 have hk8 : (k : Int) ≤ 8 := by omega
 go_enter Tryz.func25, Tryz.ntmps25
 go_wp2_with fail
 go_loop [6, 21] (RfRel (s.data.toList.take k)) (fun _ vi => k - (intOf vi).toNat)
 case atStart => exact ⟨0, by omega, rfl, by simp [leV]⟩
 case round =>
  obtain ⟨i, hi, rfl, rfl⟩ := hrel
  rw [hl] at hi
  have Hl := Lib.hid hl
  clear hl
  by_cases hlt : i < k
  ·have hlt' : (i : Int) < (k : Int) := by omega
   have hq : i < s.size := by omega
   have hbs := s[i].toNat_lt
   have hbI : (s[i].toNat : Int) ≤ 255 := by omega
   have hx1 := leV_le (l := (s.data.toList.take k).take i) (k := i) (by rw [List.length_take]; omega)
   have hstep : (s.data.toList.take k).take (i + 1) = (s.data.toList.take k).take i ++ [s[i]] := by
    rw [List.take_succ_eq_append_getElem (by rw [Hl.out]; exact hlt), List.getElem_take]
    rfl
   have hlen : ((s.data.toList.take k).take i).length = i := by rw [List.length_take, Hl.out]; omega
   have Hst := Lib.hid hstep
   have Hlen := Lib.hid hlen
   obtain ⟨x, hx⟩ : ∃ x, x = leV ((s.data.toList.take k).take i) := ⟨_, rfl⟩
   rw [← hx] at hx1 ⊢
   have Hx := Lib.hid hx
   have Hx1 := Lib.hid hx1
   clear hx hx1 hstep hlen
   go_wp2_with fail
   go_round
   case rel =>
    refine ⟨i + 1, by rw [Hl.out]; omega, by go_num, ?_⟩
    rw [Hst.out, leV_snoc, ← Hx.out, Hlen.out]
    exact congrArg (Value.int .u64) (fx_or (by omega) Hx1.out (by omega))
   case measure => simp [intOf]; omega
  ·have hlt' : ¬ (i : Int) < (k : Int) := by omega
   obtain rfl : i = k := by omega
   go_wp2_with fail
   go_ret2
   refine ⟨?_, Chg.refl _ _⟩
   rw [List.take_of_length_le (by rw [Hl.out]; exact Nat.le_refl _)]
   rfl
def tabCells (k : Nat) : List Value := (List.range k).map (fun i => Value.int .u32 (crcSteps 8 i : Nat)) ++ List.replicate (256 - k) (.int .u32 0)
theorem tab_len {k : Nat} (h : k ≤ 256) : (tabCells k).length = 256 := by simp [tabCells]; omega
theorem tab_set {k : Nat} (h : k < 256) : (tabCells k).set k (.int .u32 (crcSteps 8 k : Nat)) = tabCells (k + 1) := by
 unfold tabCells
 rw [show 256 - k = (256 - (k + 1)) + 1 from by omega, List.replicate_succ, List.set_append_right _ _ (by simp), List.length_map, List.length_range, Nat.sub_self, qE, List.range_succ, List.map_append, List.append_assoc]
 rfl
theorem tab_get {k : Nat} (h : k < 256) : (tabCells 256)[k]? = some (.int .u32 (crcSteps 8 k : Nat)) := by
 unfold tabCells
 rw [List.getElem?_append_left (by simpa using h)]
 simp [h]
def TbRel (b0 b : Nat) (z : List Value) (w : World) (vi : Value) (wr : World) : Prop := ∃ i : Nat, i ≤ 256 ∧ vi = .int .i64 (i : Nat) ∧ Blk wr b (tabCells i) 107 ∧ Blk wr b0 z 107 ∧ Chg NoB w wr
def TcRel (c : Nat) (vc vk : Value) : Prop := ∃ k : Nat, k ≤ 8 ∧ vk = .int .i64 (k : Nat) ∧ vc = .int .u32 (crcSteps k c : Nat)
theorem results_one {fn : Func} {p : Tmp} {ty : TypeId} (h : fn.results = #[.cell p ty]) (tmps : Array Value) (P : Program) (w : World) :
  (results fn tmps).run P w = ((asAddr (tmps.getD p undef)).run P w).andThen fun a w₁ => (loadVar ty a).run P w₁ := by
 simp only [results, h]
 simp [Sem.run_bind, Result.andThen]
theorem oper_load {P : Program} {o : Oper} {a : Act} {w : World} {next : Act → World → Prop} {Q : Exit → Act → World → Prop} (t : TypeId) (x : Operand) (p : Value) (v : Value) (ho : o.op = .load t x) (hx : a.eval x = p)
  (hld : (Instr.loadAt t p).run P w = .ok v w) (h : next (a.put o.dst v) w) : Oper.wp P o a w next Q := by
 unfold Oper.wp execOp
 rw [ho]
 simp only [hx, Sem.run_bind, Sem.run_pure, hld, Result.andThen]
 exact h
theorem run_load_blk {P : Program} {w : World} {b : Nat} {cs : List Value} {t : TypeId} {n : Nat} {e : TypeId} (h : Blk w b cs t) (hu : P.underlying t = some (.array n e)) (hi : (P.info? t).map (·.size) = some cs.length) :
  (Instr.loadAt t (.pointer (some ⟨b, 0, none⟩))).run P w = .ok (.agg cs.toArray) w := by
 simp only [Instr.loadAt, Instr.sureAddr, Sem.run_bind, Sem.run_pure, Result.andThen]
 exact run_loadVar_row _ _ _ _ _ _ _ h hu rfl (by simpa using hi)
theorem run_store_blk {P : Program} {w : World} {b : Nat} {cs cs' : List Value} {t : TypeId} (h : Blk w b cs t) (hi : (P.info? t).map (·.size) = some cs'.length) (hl : cs.length = cs'.length) (h1 : ∀ u ∈ cs', u.oneCell' = true) :
  (storeCells ⟨b, 0, none⟩ cs' 0).run P w = .ok () (w.setRow b cs'.toArray) := by
 have h2 := run_storeVar_row (P := P) w b t t cs.toArray cs'.toArray h (by simpa using hi) (by simpa using hl) (by simp only [List.all_toArray]; exact List.all_eq_true.2 h1)
 cases hq : P.info? t with
 | none => simp [hq] at hi
 | some i =>
  have hs : cs'.length = i.size := by simp [hq] at hi; omega
  simpa [storeVar, sizeOf, typeInfo, hq, Value.cells, hs] using h2
theorem Blk.row {w : World} {b : Nat} {cs : List Value} {t : TypeId} (h : Blk w b cs t) (cs' : List Value) : Blk (w.setRow b cs'.toArray) b cs' t := setRow_heap w b _ _ _ _ h
theorem Chg.row {C : Nat → Prop} {a w : World} (h : Chg C a w) {b : Nat} (hb : C b ∨ a.heap.size ≤ b) (cs : Array Value) : Chg C a (w.setRow b cs) :=
 ⟨h.os, h.tape, h.output, by simpa [World.setRow] using h.size, fun k hk hn => by
  have hne : b ≠ k := fun e => by subst e; rcases hb with x | x; exact hn x; omega
  show (w.heap.modify b _)[k]? = _
  rw [Array.getElem?_modify, if_neg hne]
  exact h.block k hk hn⟩
theorem tab_one {k : Nat} : ∀ u ∈ tabCells k, u.oneCell' = true := by
 intro u hu
 unfold tabCells at hu
 rcases List.mem_append.1 hu with h | h
 ·obtain ⟨i, _, rfl⟩ := List.mem_map.1 h; rfl
 ·obtain rfl := (List.mem_replicate.1 h).2; rfl
theorem tab_bits {x : Nat} (hx : x < 4294967296) : bits .xor .u32 ((x : Int) / 2) (bits .and .u32 3988292384 (-((x : Int) % 2) % 4294967296)) = (crcStep x : Nat) := by
 have e2 : ((x : Int) / 2) = ((x / 2 : Nat) : Int) := by omega
 have e0 : ((3988292384 : Nat) : Int) = 3988292384 := rfl
 rcases Nat.mod_two_eq_zero_or_one x with h | h
 ·have e1 : (-((x : Int) % 2) % 4294967296) = ((0 : Nat) : Int) := by omega
  have ha := u32_and_nat 3988292384 0 (by decide) (by decide)
  rw [e0] at ha
  rw [e1, ha, e2, u32_xor_nat (x / 2) _ (by omega) (by decide)]
  unfold crcStep
  rw [if_neg (by omega)]
  rfl
 ·have e1 : (-((x : Int) % 2) % 4294967296) = ((4294967295 : Nat) : Int) := by omega
  have ha := u32_and_nat 3988292384 4294967295 (by decide) (by decide)
  rw [e0] at ha
  rw [e1, ha, e2, u32_xor_nat (x / 2) _ (by omega) (by decide)]
  unfold crcStep
  rw [if_pos h]
  rfl
theorem table_any (w : World) : Calls Tryz.prog 43 #[] w (RetV (.agg (tabCells 256).toArray) w) := by
 have hz := zero_of_info (P := Tryz.prog) (t := 107) (v := .agg (Array.replicate 256 (.int .u32 0))) (n := 256) (by kernel_rfl)
 obtain ⟨hz1, hz2⟩ := hz
 have Hz2 := Lib.hid hz2
 go_enter Tryz.func43, Tryz.ntmps43
 go_wp2_with fail
 rw [← List.toArray_replicate]
 obtain ⟨z, hzz⟩ : ∃ z, z = List.replicate 256 (Value.int .u32 0) := ⟨_, rfl⟩
 rw [← hzz]
 generalize hw1 : World.alloc _ _ = w1
 have hc1 : Chg NoB w w1 := by
  rw [← hw1]
  repeat (first | exact Chg.refl _ _ | apply Chg.alloc | apply Chg.drew)
 have hb0 : Blk w1 (w.heap.size) (z) 107 := by
  rw [← hw1]
  repeat (first | exact Blk.newAt (by first | rfl | (simp; done) | (simp; omega)) | apply Blk.alloc | apply Blk.drew)
 have hb1 : Blk w1 (w.heap.size + 1) (z) 107 := by
  rw [← hw1]
  repeat (first | exact Blk.newAt (by first | rfl | (simp; done) | (simp; omega)) | apply Blk.alloc | apply Blk.drew)
 clear hw1 hz1 hz2
 have Hzz := Lib.hid hzz
 clear hzz
 go_loopw [4] (TbRel w.heap.size (w.heap.size + 1) z w) (fun vi _ => 256 - (intOf vi).toNat)
 case atStart => exact ⟨0, by omega, rfl, by rw [Hzz.out] at hb1; exact hb1, hb0, hc1⟩
 case round =>
  obtain ⟨i, hi, rfl, hb, hb0, hc⟩ := hrel
  by_cases hlt : i < 256
  ·have hlt' : (i : Int) < 256 := by omega
   go_wp2_with fail
   go_loop [3, 9] (TcRel i) (fun _ vk => 8 - (intOf vk).toNat)
   case atStart => exact ⟨0, by omega, rfl, rfl⟩
   case round =>
    obtain ⟨k, hk, rfl, rfl⟩ := hrel
    obtain ⟨x, hx⟩ : ∃ x, x = crcSteps k i := ⟨_, rfl⟩
    have hxlt : x < 4294967296 := by rw [hx]; exact crcSteps_lt k (by omega)
    have hsn : crcSteps (k + 1) i = crcStep x := by rw [hx]; rfl
    rw [← hx]
    have Hx := Lib.hid hx
    have Hsn := Lib.hid hsn
    clear hx hsn
    by_cases hk8 : k < 8
    ·have hk8' : (k : Int) < 8 := by omega
     have hand : bits .and .u32 (x : Int) 1 = (x : Int) % 2 := bits_mask .u32 32 (by decide) wraps_u32 1 (by decide) x (by omega) (by omega)
     go_wp2_with fail
     go_round
     case rel => exact ⟨k + 1, by omega, by go_num, by rw [Hsn.out]; exact congrArg (Value.int .u32) (tab_bits hxlt)⟩
     case measure => simp [intOf]; omega
    ·have hk8' : ¬ (k : Int) < 8 := by omega
     obtain rfl : k = 8 := by omega
     have c0 : wr.cell? ⟨w.heap.size + 1, i, none⟩ = some ((tabCells i)[i]'(by rw [tab_len (by omega)]; exact hlt)) := (hb.cell i).trans (List.getElem?_eq_getElem _)
     have f0 : wr.frozen? ⟨w.heap.size + 1, i, none⟩ = false := hb.free i
     generalize (tabCells i)[i]'(by rw [tab_len (by omega)]; exact hlt) = old at c0
     go_wp2_with fail
     go_roundw
     case rel =>
      have hne : w.heap.size ≠ w.heap.size + 1 := by omega
      refine ⟨i + 1, by omega, by go_num, ?_, hb0.other (p := ⟨w.heap.size + 1, i, none⟩) hne _, hc.setCell (p := ⟨w.heap.size + 1, i, none⟩) (.inr (Nat.le_succ _)) _⟩
      have h2 := hb.set i (Value.int .u32 (x : Nat))
      rw [Hx.out, tab_set hlt] at h2
      rw [Hx.out]
      exact h2
     case measure => simp [intOf]; omega
  ·have hlt' : ¬ (i : Int) < 256 := by omega
   obtain rfl : i = 256 := by omega
   have hld := run_load_blk (P := Tryz.prog) hb Tryz.underlying107 (by rw [Hz2.out, tab_len (by omega)])
   have hst := run_store_blk (P := Tryz.prog) (cs' := tabCells 256) hb0 (by rw [Hz2.out, tab_len (by omega)]) (by rw [tab_len (by omega), Hzz.out, List.length_replicate]) tab_one
   have hb9 := hb0.row (tabCells 256)
   have hc9 := hc.row (b := w.heap.size) (.inr (Nat.le_refl _)) (tabCells 256).toArray
   have hl9 := run_load_blk (P := Tryz.prog) hb9 Tryz.underlying107 (by rw [Hz2.out, tab_len (by omega)])
   generalize wr.setRow w.heap.size (tabCells 256).toArray = w9 at hst hb9 hc9 hl9
   have Hld := Lib.hid hld
   have Hst := Lib.hid hst
   have Hl9 := Lib.hid hl9
   clear hld hst hl9
   go_wp2_with fail
   refine oper_load 107 (.tmp 1) (.pointer (some ⟨w.heap.size + 1, 0, none⟩)) (.agg (tabCells 256).toArray) rfl rfl Hld.out ?_
   go_wp2_with fail
   simp only [Result.andThen, Hst.out]
   rw [Oper.upon_skip]
   go_wp2_with fail
   refine bodyPost_ret (v := .agg (tabCells 256).toArray) ?_ rfl ⟨rfl, hc9⟩
   have h9 := Hl9.out
   simp only [Instr.loadAt, Instr.sureAddr, Sem.run_bind, Sem.run_pure, Result.andThen] at h9
   rw [results_one rfl]
   exact h9
def SuRel (l : List UInt8) (vc vi : Value) : Prop := ∃ i : Nat, i ≤ l.length ∧ vi = .int .i64 (i : Nat) ∧ vc = .int .u32 (crcRun 4294967295 (l.take i) : Nat)
theorem sum_any (s : ByteArray) (w : World) (hb : s.size ≤ 9000000000000000000) : Calls Tryz.prog 26 #[.string s] w (RetV (.int .u32 (crcF s.data.toList : Nat)) w) := by
 have hl := size_list s
 have hz := zero_of_info (P := Tryz.prog) (t := 107) (v := .agg (Array.replicate 256 (.int .u32 0))) (n := 256) (by kernel_rfl)
 obtain ⟨hz1, hz2⟩ := hz
 have Hz2 := Lib.hid hz2
 clear hz2
 go_enter Tryz.func26, Tryz.ntmps26
 go_wp2_with fail
 refine (table_any w).mono ?_
 rintro en w1 ⟨rfl, hc1⟩
 have hbz : Blk (w1.alloc (.cells (List.replicate 256 (Value.int .u32 0)).toArray 107)) w1.heap.size (List.replicate 256 (.int .u32 0)) 107 := Blk.new _ _ _
 have hst := run_store_blk (P := Tryz.prog) (cs' := tabCells 256) hbz (by rw [Hz2.out, tab_len (by omega)]) (by rw [tab_len (by omega), List.length_replicate]) tab_one
 rw [World.setRow_alloc_new] at hst
 have Hst := Lib.hid hst
 clear hst hbz
 go_wp2_with fail
 rw [← List.toArray_replicate]
 simp only [Result.andThen, Hst.out]
 rw [Oper.upon_skip]
 generalize hw2 : World.alloc _ _ = w2
 have hc2 : Chg NoB w1 w2 := by
  rw [← hw2]
  repeat (first | exact Chg.refl _ _ | apply Chg.alloc | apply Chg.drew)
 have hb2 : Blk w2 (w1.heap.size) ((tabCells 256)) 107 := by
  rw [← hw2]
  repeat (first | exact Blk.newAt (by first | rfl | (simp; done) | (simp; omega)) | apply Blk.alloc | apply Blk.drew)
 clear hw2
 have hc02 := hc1.tr hc2
 go_wp2_with fail
 go_loop [4, 9] (SuRel s.data.toList) (fun _ vi => s.size - (intOf vi).toNat)
 case atStart => exact ⟨0, by omega, rfl, rfl⟩
 case round =>
  obtain ⟨i, hi, rfl, rfl⟩ := hrel
  rw [hl] at hi
  have Hl := Lib.hid hl
  clear hl
  obtain ⟨c, hc⟩ : ∃ c, c = crcRun 4294967295 (s.data.toList.take i) := ⟨_, rfl⟩
  have hclt : c < 4294967296 := by rw [hc]; exact crcRun_lt _ (by decide)
  rw [← hc]
  have Hc := Lib.hid hc
  clear hc
  by_cases hlt : i < s.size
  ·have hlt' : (i : Int) < (s.size : Int) := by omega
   have hbs := s[i].toNat_lt
   have hbI : (s[i].toNat : Int) ≤ 255 := by omega
   obtain ⟨q, hq⟩ : ∃ q, q = (c % 256) ^^^ s[i].toNat := ⟨_, rfl⟩
   have hql : q < 256 := by rw [hq]; exact Nat.xor_lt_two_pow (n := 8) (by omega) (by omega)
   have hx : bits .xor .u8 ((c : Int) % 256) (s[i].toNat : Int) = (q : Nat) := by
    have h1 := u8_xor_nat (c % 256) s[i].toNat (by omega) (by omega)
    rw [hq, ← h1]
    rfl
   have hqI : (q : Int) < 256 := by omega
   have c0 : w2.cell? ⟨w1.heap.size, q, none⟩ = some (.int .u32 (crcSteps 8 q : Nat)) := (hb2.cell q).trans (tab_get hql)
   have hx2 : bits .xor .u32 ((crcSteps 8 q : Nat) : Int) ((c : Int) / 256) = ((crcSteps 8 q ^^^ (c / 256) : Nat) : Int) := u32_xor_nat _ (c / 256) (crcSteps_lt 8 (by omega)) (by omega)
   have hstep : crcRun 4294967295 (s.data.toList.take (i + 1)) = crcSteps 8 q ^^^ (c / 256) := by
    rw [List.take_succ_eq_append_getElem (by rw [Hl.out]; exact hlt), crcRun_snoc, ← Hc.out, crcByte_tab, hq]
    rfl
   have Hstep := Lib.hid hstep
   clear hstep hq
   go_wp2_with fail
   go_round
   case rel => exact ⟨i + 1, by rw [Hl.out]; omega, by go_num, by rw [Hstep.out]⟩
   case measure => simp [intOf]; omega
  ·have hlt' : ¬ (i : Int) < (s.size : Int) := by omega
   have hx := u32_xor_nat 4294967295 c (by decide) hclt
   go_wp2_with fail
   go_ret
   refine ⟨?_, hc02⟩
   have hf : crcF s.data.toList = 4294967295 ^^^ c := by
    unfold crcF
    rw [Hc.out, List.take_of_length_le (by rw [Hl.out]; omega), Nat.xor_comm]
   rw [hf]
   exact congrArg (fun z => Ending.returned (Value.int .u32 z)) hx
open Go.RowKit Go.Maps
theorem clone_nil (w : World) : Calls Tryz.prog 24 #[.slice none 0 0] w (fun en w' => en = .returned (.slice none 0 0) ∧ w' = w) := by
 refine (Tryz.slices_Clone_string_nil 0 0 w).mono ?_
 rintro en w' ⟨h1, h2⟩
 exact ⟨h1, h2⟩
theorem edits_new (tb : Nat) (w : World) (h0 : w.cell? ⟨tb, 0, none⟩ = some (.slice none 0 0)) :
  Calls Tryz.prog 13 #[.pointer (some ⟨tb, 0, none⟩)] w (fun en w' => en = .returned (.slice none 0 0) ∧ w' = w) := by
 go_enter Tryz.func13, Tryz.ntmps13
 go_wp2_with fail
 refine (clone_nil w).mono ?_
 rintro en w1 ⟨rfl, rfl⟩
 go_wp2_with fail
 go_ret
 exact ⟨rfl, rfl⟩
theorem snaps_new (tb c : Nat) (a : Option Addr) (w : World) (h0 : w.cell? ⟨tb, 1, none⟩ = some (.slice a 1 c)) :
  Calls Tryz.prog 12 #[.pointer (some ⟨tb, 0, none⟩)] w (fun en w' => en = .returned (.int .i64 1) ∧ w' = w) := by
 go_enter Tryz.func12, Tryz.ntmps12
 go_wp2_with fail
 go_ret
 exact ⟨rfl, rfl⟩
theorem files_new (tb sb c : Nat) (w : World) (h0 : w.cell? ⟨tb, 1, none⟩ = some (.slice (some ⟨sb, 0, none⟩) 1 c)) (h1 : w.cell? ⟨sb, 0, none⟩ = some (.slice none 0 0)) :
  Calls Tryz.prog 11 #[.pointer (some ⟨tb, 0, none⟩), .int .i64 0] w (fun en w' => en = .returned (.tuple #[.slice none 0 0, .nilIface]) ∧ w' = w) := by
 go_enter Tryz.func11, Tryz.ntmps11
 go_wp2_with fail
 refine wp_loop_rounds 1 ?_
 rw [rounds_succ]
 go_wp2_with fail
 go_ret2
 exact ⟨rfl, rfl⟩
theorem infoGs : (Tryz.prog.info? 297).map (fun i => (i.zero, i.size, i.bytes)) = some (some (.slice none 0 0), 1, 24) := by kernel_rfl
theorem newTR_any (w : World) : Calls Tryz.prog 23 #[] w (fun en w' => (∃ b, en = .returned (.pointer (some ⟨b, 0, none⟩))) ∧ Chg NoB w w') := by
 have hmk := run_make_row' (P := Tryz.prog) 104 297 (.slice none 0 0) 24 Tryz.underlying104 infoGs rfl .i64 .i64 1 (by decide) (by decide) w
 rw [show ((1 : Nat) : Int) = 1 from rfl] at hmk
 go_enter Tryz.func23, Tryz.ntmps23
 go_wp2_with fail
 go_ret
 exact ⟨⟨_, rfl⟩, ((Chg.refl NoB w).alloc _).alloc _⟩
theorem newD_any (w : World) : Calls Tryz.prog 5 #[.int .i64 400000] w (fun en w' => en = .returned (.tuple #[.pointer (some ⟨w.heap.size + 1, 0, none⟩), .nilIface]) ∧ FM w' w.heap.size 0 noneD ∧ Blk w' (w.heap.size + 1) (dkCells 0 0 w.heap.size) 46 ∧ Chg NoB w w') := by
 have hmk := @run_makeMap Tryz.prog
 go_enter Tryz.func5, Tryz.ntmps5
 go_wp2_with fail
 refine bodyPost_ret (v := .tuple #[.pointer (some ⟨w.heap.size + 1, 0, none⟩), .nilIface]) (by simp [results, Tryz.results5, go_sem]) rfl ?_
 refine ⟨rfl, ?_, ?_, ((Chg.refl NoB w).alloc _).alloc _⟩
 ·exact (World.ownsMap_made w Tryz.prog 9 heldE).alloc _
 ·exact Blk.newAt (by simp)
end Go.Proofs.YtnmhkafpgohefaaGreatDoor
