/-
  strings.Builder: what WriteString does to a builder of the call's own, with all that it leaves as it was (the shelf's contract, walked over this translation, whose copyCheck bears a stop).; shredcolref1.Byte; texts one behind the other; a row of bytes of the call's own as a string.; The remainder of bytes, bit by bit and by a table; numbers of so many bytes, the lowest first: as plain functions. N
-/
import Derived.Test.YtkchmgjmecojcaaGreatDoorProg
import Derived.Test.YtkchmgjmecojcaaGreatDoorBase
import Derived.Lib.Builder
import Derived.Lib.AppendStr
import Derived.Lib.UnsafeStr
import Derived.Lib.MakeNoZero
import Derived.Laws.Externs
import Derived.Lib.OthersKept
import Derived.Test.YtkchmgjmecojcaaGreatDoorWalk
import Derived.Laws.IdiomStrings
import Derived.Laws.BitsAllLaws
import Derived.Lib.Varint
set_option linter.unusedVariables false
set_option maxHeartbeats 20000000
set_option maxRecDepth 100000
set_option linter.unusedSimpArgs false
namespace Go.Proofs.YtkchmgjmecojcaaGreatDoor
open Go.RowKit
theorem bd_size : (Tryz.prog.info? 60).map (·.size) = some 2 := by kernel_rfl
theorem bd_lies : liesAt Tryz.prog Tryz.prog.depth 60 (2 / Tryz.prog.cellsOf 60) 0 60 1 = true := by kernel_rfl
theorem infoByte : (Tryz.prog.info? 5).map (fun i => (i.zero, i.size, i.bytes)) = some (some (.int .u8 0), 1, 1) := by kernel_rfl
abbrev IsB (B b : Nat) (bs : List Value) (w : World) : Prop := Lib.IsBuilder 60 5 B b bs w
abbrev BAt (B b : Nat) (p : Value) (bs : List Value) (w : World) : Prop := Lib.BuilderAt 60 5 B b p bs w
theorem copyCheck_used (b : Nat) (w : World) (h0 : w.cell? ⟨b, 0, none⟩ = some (.pointer (some ⟨b, 0, none⟩))) :
  Calls Tryz.prog 51 #[.pointer (some ⟨b, 0, none⟩)] w fun e w' => e = .returned (.tuple #[]) ∧ w' = w := by
 obtain ⟨j, hj, _⟩ := Option.map_eq_some_iff.1 bd_size
 go_enter Tryz.func51, Tryz.ntmps51
 go_wp2_with fail
 rw [Lib.run_neq_ptr_same w _ Tryz.underlying57 hj]
 go_wp2_with fail
 go_end0
 exact ⟨rfl, rfl⟩
theorem copyCheck_fresh (b : Nat) (w : World) (h0 : w.cell? ⟨b, 0, none⟩ = some (.pointer none)) (hsh : w.shape? b = some (60, 2)) (hfz : w.frozen? ⟨b, 0, none⟩ = false) :
  Calls Tryz.prog 51 #[.pointer (some ⟨b, 0, none⟩)] w fun e w' => e = .returned (.tuple #[]) ∧ w' = w.setCell ⟨b, 0, none⟩ (.pointer (some ⟨b, 0, none⟩)) := by
 obtain ⟨j, hj, hjs⟩ := Option.map_eq_some_iff.1 bd_size
 go_enter Tryz.func51, Tryz.ntmps51
 go_wp2_with fail
 rw [Lib.run_to_unsafe w ⟨b, 0, none⟩ Tryz.underlying57 Tryz.underlying170 hj (by rw [hjs]; decide) hsh (Nat.zero_lt_succ 1)]
 simp only [Result.andThen]
 rw [Oper.upon_value]
 go_wp2_with fail
 rw [run_callFunc_extern Tryz.func96 (by kernel_rfl) (by kernel_rfl) (by kernel_rfl) (e := Extern.AbiNoEscape.same) (by kernel_rfl)]
 rw [Lib.run_noEscape]
 simp only [Result.andThen]
 rw [Oper.upon_value]
 go_wp2_with fail
 rw [Lib.run_from_unsafe w ⟨b, 0, none⟩ Tryz.underlying170 Tryz.underlying57 hj hsh bd_lies]
 simp only [Result.andThen]
 rw [Oper.upon_value]
 go_wp2_with fail
 go_end0
 exact ⟨rfl, rfl⟩
theorem copyCheck_any (B b : Nat) (bs : List Value) (w : World) (h : IsB B b bs w) :
  Calls Tryz.prog 51 #[.pointer (some ⟨b, 0, none⟩)] w fun e w' => e = .returned (.tuple #[]) ∧ BAt B b (.pointer (some ⟨b, 0, none⟩)) bs w' ∧ Chg (RowsOf w 5 B b) w w' := by
 rcases h with h | h
 ·refine (copyCheck_fresh b w h.cell0 h.shape h.frozen0).mono ?_
  rintro e w' ⟨rfl, rfl⟩
  exact ⟨rfl, h.used _, (Chg.refl _ w).setCell (p := ⟨b, 0, none⟩) (.inl ⟨h.1, .inl rfl⟩) _⟩
 ·refine (copyCheck_used b w h.cell0).mono ?_
  rintro e w' ⟨rfl, rfl⟩
  exact ⟨rfl, h, Chg.refl _ _⟩
theorem writeString_any (B b : Nat) (bs : List Value) (s : ByteArray) (w : World) (h : IsB B b bs w) (hlen : bs.length + s.size ≤ 140737488355328) (hBw : B ≤ w.heap.size) :
  Calls Tryz.prog 19 #[.pointer (some ⟨b, 0, none⟩), .string s] w fun e w' => e = .returned (.tuple #[.int .i64 s.size, .nilIface]) ∧ IsB B b (bs ++ Lib.strCells s) w' ∧ Chg (RowsOf w 5 B b) w w' := by
 obtain ⟨i0, hi, hz0, hz1, hz2⟩ := info_parts infoByte
 go_enter Tryz.func19, Tryz.ntmps19
 go_wp2_with fail
 refine (copyCheck_any B b bs w h).mono ?_
 rintro e w1 ⟨rfl, h1, hc1⟩
 obtain ⟨hB, v, hbk, hown, hne⟩ := h1
 have c0 : w1.cell? ⟨b, 0, none⟩ = some (.pointer (some ⟨b, 0, none⟩)) := by rw [Lib.cell_of_heap hbk]; rfl
 have c1 : w1.cell? ⟨b, 1, none⟩ = some v := by rw [Lib.cell_of_heap hbk]; rfl
 go_wp2_with (at_builtin; refine Lib.wpList_append_own_string _ rfl _ _ 58 9 rfl B 5 i0 Tryz.underlying58 Tryz.underlying9 hi hz0 hz1 hz2 _ _ _ rfl hown s rfl ?c3 ?c4 ?c5 ?_)
 case c3 => unfold maxLen; omega
 case c4 => omega
 case c5 => have := hc1.size; omega
 intro v' w2 hown' hgrow _
 have hlt : b < w1.heap.size := lt_of_block hbk
 have hb2 : w2.heap[b]? = some (.cells #[.pointer (some ⟨b, 0, none⟩), v] 60 (0, 0)) := by
  rw [hgrow.block b hlt (fun e => hne e.symm)]
  exact hbk
 have d0 : w2.cell? ⟨b, 0, none⟩ = some (.pointer (some ⟨b, 0, none⟩)) := by rw [Lib.cell_of_heap hb2]; rfl
 have d1 : w2.cell? ⟨b, 1, none⟩ = some v := by rw [Lib.cell_of_heap hb2]; rfl
 have f1 : w2.frozen? ⟨b, 1, none⟩ = false := Lib.frozen_of_heap hb2 1
 obtain ⟨ao, n', cap, rfl⟩ : ∃ ao n' cap, v' = .slice ao n' cap := by
  rcases hown'.2 with ⟨hv, _⟩ | ⟨g, cap, cur, hv, _⟩
  ·exact ⟨_, _, _, hv⟩
  ·exact ⟨_, _, _, hv⟩
 have hrow : ∀ g, v.ownBlock = some g → RowsOf w1 5 B b g := fun g hg => by
  rcases hown.2 with ⟨rfl, _⟩ | ⟨g', cap, cur, rfl, hb', hg', _⟩
  ·cases hg
  ·obtain rfl := Option.some.inj hg
   exact ⟨hb', .inr ⟨_, _, hg'⟩⟩
 go_wp2_with fail
 go_ret2
 refine ⟨rfl, .inr ?_, ?_⟩
 ·exact Lib.BuilderAt.put (T := 60) (e := 5) hB hb2 (bs' := bs ++ Lib.strCells s) (by simpa [Lib.strCells_length] using hown') (by decide)
 ·exact hc1.rows (((Chg.refl _ w1).grown hgrow (fun k hk => .inl (hrow k hk))).setCell (p := ⟨b, 1, none⟩) (.inl ⟨hB, .inl rfl⟩) _)
theorem IsB.keep {B b : Nat} {bs : List Value} {C : Nat → Prop} {w w' : World} (h : IsB B b bs w) (hc : Chg C w w') (hb : ¬ C b) (hrow : ∀ k c fz, B ≤ k → w.heap[k]? = some (.cells c 5 fz) → ¬ C k) : IsB B b bs w' := by
 have key : ∀ p, BAt B b p bs w → BAt B b p bs w' := by
  rintro p ⟨hB, v, hbk, hown, hne⟩
  refine ⟨hB, v, hc.at hbk hb, ⟨hown.1, ?_⟩, hne⟩
  rcases hown.2 with h0 | ⟨g, cap, cur, rfl, hg, hh, r⟩
  ·exact .inl h0
  ·exact .inr ⟨g, cap, cur, rfl, hg, hc.at hh (hrow g _ _ hg hh), r⟩
 exact h.imp (key _) (key _)
theorem IsB.keep0 {B b : Nat} {bs : List Value} {w w' : World} (h : IsB B b bs w) (hc : Chg NoB w w') : IsB B b bs w' := h.keep hc nbE (fun _ _ _ _ _ => nbE)
theorem IsB.lt {B b : Nat} {bs : List Value} {w : World} (h : IsB B b bs w) : b < w.heap.size := h.elim Lib.BuilderAt.lt Lib.BuilderAt.lt
theorem IsB.from {B b : Nat} {bs : List Value} {w : World} (h : IsB B b bs w) : B ≤ b := h.elim (·.1) (·.1)
theorem byteS_any (k : Int) (w : World) (h0 : 0 ≤ k) (h : k ≤ 255) : Calls Tryz.prog 75 #[.int .i64 k] w (RetV (.string ⟨#[UInt8.ofNat k.toNat]⟩) w) := by
 obtain ⟨n, rfl⟩ := Int.eq_ofNat_of_zero_le h0
 rw [Int.toNat_natCast]
 have hconv : (convert 58 9 (.slice (some ⟨w.heap.size, 0, none⟩) 1 1)).run Tryz.prog (w.alloc (.cells #[.int .u8 (n : Nat)] 5)) = .ok (.string ⟨#[UInt8.ofNat n]⟩) (w.alloc (.cells #[.int .u8 (n : Nat)] 5)) := by
  refine run_convert_bytes_back _ _ _ 5 ⟨w.heap.size, 0, none⟩ 1 [UInt8.ofNat n] Tryz.underlying58 Tryz.underlying5 Tryz.underlying9 fun j hj => ?_
  obtain rfl : j = 0 := by simp at hj; omega
  have h1 : (n : Int) = ((UInt8.ofNat n).toNat : Int) := by simp; omega
  have h2 := World.cell?_alloc_mark w #[.int .u8 (n : Nat)] 5 (0, 0) 0
  show World.cell? _ ⟨w.heap.size, 0 + 0, none⟩ = _
  rw [show (0 + 0 : Nat) = 0 from rfl, h2, List.getElem_cons_zero, ← h1]
  rfl
 go_enter Tryz.func75, Tryz.ntmps75
 go_wp2_with fail
 generalize hw1 : w.alloc _ = w1
 have hc1 : Chg NoB w w1 := by
  rw [← hw1]
  repeat (first | exact Chg.refl _ _ | apply Chg.alloc | apply Chg.drew)
 go_ret
 exact ⟨rfl, hc1⟩
theorem bcat (a b : List UInt8) : ((⟨a.toArray⟩ : ByteArray) ++ (⟨b.toArray⟩ : ByteArray)) = ⟨(a ++ b).toArray⟩ := by
 apply ByteArray.ext
 simp
theorem bcat1 (a b : ByteArray) : a ++ b = ⟨(a.data.toList ++ b.data.toList).toArray⟩ := by
 have := bcat a.data.toList b.data.toList
 simpa using this
theorem own_string {w : World} {B : Nat} {v : Value} {l : List UInt8} (h : w.ownsRow B 5 1 v l.length (Lib.byteCells l)) (hne : l ≠ []) :
  (convert 58 9 v).run Tryz.prog w = .ok (.string ⟨l.toArray⟩) w := by
 rcases h.2 with ⟨rfl, h0⟩ | ⟨g, cap, cur, rfl, hb, hg, r⟩
 ·exact absurd (List.eq_nil_of_length_eq_zero h0) hne
 ·refine run_convert_bytes_back _ _ _ 5 ⟨g, 0, none⟩ cap l Tryz.underlying58 Tryz.underlying5 Tryz.underlying9 fun j hj => ?_
  refine h.cells (g := g) rfl j _ ?_
  simp [Lib.byteCells, List.getElem?_eq_getElem hj]
def crcStep (c : Nat) : Nat := (c / 2) ^^^ (if c % 2 = 1 then 3988292384 else 0)
def crcSteps : Nat → Nat → Nat
 | 0, c => c
 | k + 1, c => crcStep (crcSteps k c)
def crcByte (c : Nat) (b : UInt8) : Nat := crcSteps 8 (c ^^^ b.toNat)
def crcRun (c : Nat) (l : List UInt8) : Nat := l.foldl crcByte c
def crcF (l : List UInt8) : Nat := crcRun 4294967295 l ^^^ 4294967295
theorem crc_half (a b : Nat) : (a ^^^ b) / 2 = (a / 2) ^^^ (b / 2) := by
 have := Nat.shiftRight_xor_distrib (a := a) (b := b) (i := 1)
 simpa [Nat.shiftRight_succ] using this
theorem crcStep_xor (a b : Nat) : crcStep (a ^^^ b) = crcStep a ^^^ crcStep b := by
 have h : (a ^^^ b) % 2 = (a % 2 + b % 2) % 2 := by
  have := Nat.xor_mod_two_pow (a := a) (b := b) (n := 1)
  simp only [Nat.pow_one] at this
  rw [this]
  rcases Nat.mod_two_eq_zero_or_one a with ha | ha <;> rcases Nat.mod_two_eq_zero_or_one b with hb | hb <;> simp [ha, hb]
 unfold crcStep
 rw [crc_half, h]
 generalize a / 2 = x
 generalize b / 2 = y
 rcases Nat.mod_two_eq_zero_or_one a with ha | ha <;> rcases Nat.mod_two_eq_zero_or_one b with hb | hb <;> simp only [ha, hb]
 ·simp
 ·simp [Nat.xor_assoc]
 ·have e : (x ^^^ 3988292384) ^^^ y = (x ^^^ y) ^^^ 3988292384 := by rw [Nat.xor_assoc, Nat.xor_comm _ y, ← Nat.xor_assoc]
  simp [e]
 ·have e : (x ^^^ 3988292384) ^^^ (y ^^^ 3988292384) = x ^^^ y := by
   rw [Nat.xor_assoc, Nat.xor_comm y, ← Nat.xor_assoc 3988292384, Nat.xor_self, Nat.zero_xor]
  simp [e]
theorem crcSteps_xor : ∀ (k a b : Nat), crcSteps k (a ^^^ b) = crcSteps k a ^^^ crcSteps k b
 | 0, _, _ => rfl
 | k + 1, a, b => by simp only [crcSteps]; rw [crcSteps_xor k a b, crcStep_xor]
theorem crcSteps_in : ∀ (k c : Nat), crcSteps (k + 1) c = crcSteps k (crcStep c)
 | 0, _ => rfl
 | k + 1, c => by
  have := crcSteps_in k c
  show crcStep (crcSteps (k + 1) c) = crcStep (crcSteps k (crcStep c))
  rw [this]
theorem crcStep_double (m : Nat) : crcStep (2 * m) = m := by
 unfold crcStep
 rw [if_neg (by omega), Nat.xor_zero]
 omega
theorem crcSteps_double : ∀ (k m : Nat), crcSteps k (2 ^ k * m) = m
 | 0, m => by simp [crcSteps]
 | k + 1, m => by
  rw [crcSteps_in, Nat.pow_succ, Nat.mul_comm (2 ^ k) 2, Nat.mul_assoc, crcStep_double, crcSteps_double k m]
theorem crc_parts (c : Nat) : c = (c % 256) ^^^ (256 * (c / 256)) := by
 refine Nat.eq_of_testBit_eq fun i => ?_
 have h1 := Nat.testBit_mod_two_pow c 8 i
 have h2 := Nat.testBit_two_pow_mul (i := 8) (a := c / 256) (j := i)
 have h3 := Nat.testBit_div_two_pow (n := 8) c (i - 8)
 simp only [show (2 : Nat) ^ 8 = 256 from rfl] at h1 h2 h3
 rw [Nat.testBit_xor, h1, h2]
 by_cases hi : 8 ≤ i
 ·rw [h3, show i - 8 + 8 = i from by omega]
  have h8 : decide (i < 8) = false := by simpa using hi
  simp [hi, h8]
 ·have h8 : decide (i < 8) = true := by simpa using hi
  simp [hi, h8]
theorem crcByte_tab (c : Nat) (b : UInt8) : crcByte c b = crcSteps 8 ((c % 256) ^^^ b.toNat) ^^^ (c / 256) := by
 unfold crcByte
 have e : c ^^^ b.toNat = ((c % 256) ^^^ b.toNat) ^^^ (256 * (c / 256)) := by
  conv => lhs; rw [crc_parts c]
  rw [Nat.xor_assoc, Nat.xor_comm (256 * (c / 256)), ← Nat.xor_assoc]
 rw [e, crcSteps_xor]
 have := crcSteps_double 8 (c / 256)
 rw [show (2 : Nat) ^ 8 = 256 from rfl] at this
 rw [this]
theorem crcStep_lt {c : Nat} (h : c < 4294967296) : crcStep c < 4294967296 := by
 unfold crcStep
 refine Nat.xor_lt_two_pow (n := 32) (by omega) ?_
 split <;> omega
theorem crcSteps_lt : ∀ (k : Nat) {c : Nat}, c < 4294967296 → crcSteps k c < 4294967296
 | 0, _, h => h
 | k + 1, _, h => crcStep_lt (crcSteps_lt k h)
theorem crcByte_lt {c : Nat} (h : c < 4294967296) (b : UInt8) : crcByte c b < 4294967296 :=
 crcSteps_lt 8 (Nat.xor_lt_two_pow (n := 32) h (Nat.lt_of_lt_of_le b.toNat_lt (by decide)))
theorem crcRun_lt : ∀ (l : List UInt8) {c : Nat}, c < 4294967296 → crcRun c l < 4294967296
 | [], _, h => h
 | b :: r, _, h => crcRun_lt r (crcByte_lt h b)
theorem crcF_lt (l : List UInt8) : crcF l < 4294967296 := Nat.xor_lt_two_pow (n := 32) (crcRun_lt l (by decide)) (by decide)
theorem crcRun_snoc (c : Nat) (l : List UInt8) (b : UInt8) : crcRun c (l ++ [b]) = crcByte (crcRun c l) b := by
 unfold crcRun
 rw [List.foldl_append]
 rfl
def leL : Nat → Nat → List UInt8
 | 0, _ => []
 | k + 1, n => (n % 256).toUInt8 :: leL k (n / 256)
def leV : List UInt8 → Nat
 | [] => 0
 | c :: r => c.toNat + 256 * leV r
theorem leL_length : ∀ (k n : Nat), (leL k n).length = k
 | 0, _ => rfl
 | k + 1, n => by simp [leL, leL_length k]
theorem leV_leL : ∀ (k n : Nat), n < 256 ^ k → leV (leL k n) = n
 | 0, n, h => by
  have : n = 0 := by simpa using h
  subst this
  rfl
 | k + 1, n, h => by
  have e : ((n % 256).toUInt8).toNat = n % 256 := by simp
  simp only [leL, leV]
  rw [e, leV_leL k (n / 256) (Nat.div_lt_of_lt_mul (by rw [Nat.pow_succ, Nat.mul_comm] at h; exact h))]
  omega
theorem leV_lt : ∀ (l : List UInt8), leV l < 256 ^ l.length
 | [] => by simp [leV]
 | c :: r => by
  have h1 := leV_lt r
  have h2 := c.toNat_lt
  simp only [leV, List.length_cons, Nat.pow_succ]
  generalize 256 ^ r.length = p at *
  omega
theorem leV_snoc : ∀ (l : List UInt8) (c : UInt8), leV (l ++ [c]) = leV l + c.toNat * 256 ^ l.length
 | [], c => by simp [leV]
 | b :: r, c => by
  simp only [List.cons_append, leV, List.length_cons, leV_snoc r c, Nat.pow_succ]
  rw [Nat.mul_add, ← Nat.mul_assoc, Nat.mul_comm 256 c.toNat, Nat.mul_assoc, Nat.mul_comm 256 (256 ^ r.length), Nat.add_assoc]
theorem Own.len {w : World} {B e k : Nat} {S : Nat → Prop} {v : Value} {ds : List Dt} (h : Own w B e k S v ds) : ds.length ≤ maxLen := by
 obtain ⟨xs, h1, _⟩ := h
 rcases h1.2 with ⟨_, h0⟩ | ⟨g, cap, cur, rfl, hb, hg, hn, hc, _⟩
 ·omega
 ·omega
theorem Own.inHeap {w : World} {B e k : Nat} {S : Nat → Prop} {v : Value} {ds : List Dt} (h : Own w B e k S v ds) : Own w B e k (fun b => S b ∧ b < w.heap.size) v ds := by
 obtain ⟨xs, h1, h2⟩ := h
 exact ⟨xs, h1, ReadsC.keep (fun b hb => ⟨⟨hb.1, hb.2.1⟩, hb.2.1, hb.2.2⟩) (Nat.le_refl _) (fun _ _ _ => rfl) ds xs h2⟩
end Go.Proofs.YtkchmgjmecojcaaGreatDoor
