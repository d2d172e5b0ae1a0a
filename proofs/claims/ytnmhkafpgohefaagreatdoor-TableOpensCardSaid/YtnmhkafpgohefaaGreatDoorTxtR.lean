/-
  Numbers of 7 bits a byte are read: wire.ReadUvarint, ReadText; shredcolref1.ReadSeven, ReadLong.; Texts behind their length are read: wire.ReadText, shredcolref1.ReadLong.; The remainder of bytes, bit by bit and by a table; numbers of so many bytes, the lowest first: as plain functions. No condition; nothing of one program stands here.; What TableOpens' list gives: the package's variables, the eig
-/
import Derived.Test.YtnmhkafpgohefaaGreatDoorSevLaw
import Derived.Lib.VarintBits
import Derived.Deep.QuietTactic
import Derived.BigQuiet
import Derived.Lib.Varint
import Derived.Test.YtnmhkafpgohefaaGreatDoorCards
import Derived.Test.YtnmhkafpgohefaaGreatDoorProg
import Derived.Test.YtnmhkafpgohefaaGreatDoorShort
import Derived.Test.YtnmhkafpgohefaaGreatDoorAddT
import Derived.LaidHandle
import Derived.Lay
import Derived.ProofKit
import Derived.OpenShut
import Derived.LaidLaws
import Derived.Lib.LaidU8
import Derived.Test.YtnmhkafpgohefaaGreatDoorShelf
set_option linter.unusedVariables false
set_option maxHeartbeats 20000000
set_option maxRecDepth 100000
set_option linter.unusedSimpArgs false
namespace Go.Proofs.YtnmhkafpgohefaaGreatDoor
open Go.RowKit
def SrRel (s : ByteArray) (vn vi : Value) : Prop := ∃ (i acc : Nat), i ≤ 9 ∧ i ≤ s.size ∧ vn = .int .u64 (acc : Nat) ∧ vi = .int .i64 (i : Nat) ∧ acc < 2 ^ (7 * i) ∧ sev s.data.toList = sevFrom i acc (s.data.toList.drop i)
def sevV (e : Value) : Option (Nat × Nat) → Value
 | none => .tuple #[.int .u64 0, .int .i64 0, e]
 | some (n, u) => .tuple #[.int .u64 n, .int .i64 u, .nilIface]
theorem byte_drop {s : ByteArray} {i : Nat} (h : i < s.size) : s.data.toList.drop i = s[i] :: s.data.toList.drop (i + 1) := by
 have hl : i < s.data.toList.length := by rw [Array.length_toList]; exact h
 rw [List.drop_eq_getElem_cons hl]
 rfl
theorem sevV_none {e : Value} {o : Option (Nat × Nat)} (h : o = none) : Ending.returned (.tuple #[.int .u64 0, .int .i64 0, e]) = .returned (sevV e o) := by subst h; rfl
theorem sevV_some {e : Value} {o : Option (Nat × Nat)} {a b : Int} {n u : Nat} (h : o = some (n, u)) (ha : a = n) (hb : b = u) : Ending.returned (.tuple #[.int .u64 a, .int .i64 b, .nilIface]) = .returned (sevV e o) := by subst h ha hb; rfl
theorem sv_or {i acc c : Nat} (hi : i ≤ 9) (ha : acc < 2 ^ (7 * i)) (h9 : i = 9 → c ≤ 1) : bits .or .u64 (acc : Int) (IntKind.u64.wrap ((c : Int) % 128 * 2 ^ (7 * i))) = ((acc + c % 128 * 2 ^ (7 * i) : Nat) : Int) := by
 have h2 : 0 < 2 ^ (7 * i) := Nat.two_pow_pos _
 have h1 := sev_accLast (c := c % 128) (i := i) (acc := 0) hi h2 (fun e => by have := h9 e; omega) (by omega)
 have h3 : 2 ^ (7 * i) ≤ 2 ^ 64 := Nat.pow_le_pow_right (by decide) (by omega)
 have e : ((c : Int) % 128 * 2 ^ (7 * i)) = ((c % 128 * 2 ^ (7 * i) : Nat) : Int) := by simp
 have ew : IntKind.u64.wrap ((c : Int) % 128 * 2 ^ (7 * i)) = ((c % 128 * 2 ^ (7 * i) : Nat) : Int) := by
  rw [e]; exact IntWalk.u64_in _ (by omega)
 have ha' : (acc : Int) < 2 ^ (7 * i) := by exact_mod_cast ha
 have h3' : (2 : Int) ^ (7 * i) ≤ 2 ^ 64 := by exact_mod_cast h3
 have hm : ((c % 128 * 2 ^ (7 * i) : Nat) : Int) % 2 ^ (7 * i) = 0 := by
  have : (c % 128 * 2 ^ (7 * i)) % 2 ^ (7 * i) = 0 := Nat.mul_mod_left _ _
  exact_mod_cast this
 rw [ew, bits_join_low .u64 64 (by decide) wraps_u64 (7 * i) acc _ (by omega) ha' (by omega) (by omega) hm (by omega)]
 omega
theorem sv_orLast {i acc c : Nat} (hi : i ≤ 9) (ha : acc < 2 ^ (7 * i)) (h9 : i = 9 → c ≤ 1) (hc : c < 128) : bits .or .u64 (acc : Int) (IntKind.u64.wrap ((c : Int) % 128 * 2 ^ (7 * i))) = ((acc + c * 2 ^ (7 * i) : Nat) : Int) := by
 rw [sv_or hi ha h9, Nat.mod_eq_of_lt hc]
theorem readUvarint_any (s : ByteArray) (w : World) (e : Value) (he : ∃ T v, e = .iface T v) (hce : w.cell? ⟨2, 0, none⟩ = some e) (hs : s.size ≤ 9000000000000000000) :
  Calls Tryz.prog 27 #[.string s] w (RetV (sevV e (sev s.data.toList)) w) := by
 obtain ⟨T, v, rfl⟩ := he
 go_enter Tryz.func27, Tryz.ntmps27
 go_wp2_with fail
 go_loop [2, 5] (SrRel s) (fun _ vi => s.size - (intOf vi).toNat)
 case atStart => exact ⟨0, 0, by omega, by omega, rfl, rfl, by decide, rfl⟩
 case round =>
  obtain ⟨i, acc, hi9, his, rfl, rfl, hacc, hsv⟩ := hrel
  by_cases hlt : i < s.size
  ·have hb := s[i].toNat_lt
   have hbI : (s[i].toNat : Int) ≤ 255 := by omega
   have h10 : (i : Int) < 10 := by omega
   rw [byte_drop hlt] at hsv
   have Hs := Lib.hid hsv
   have Ha := Lib.hid hacc
   have hmask := u8_and127 (s[i].toNat : Int) (by omega) (by omega)
   clear hsv hacc
   by_cases h9 : i = 9 ∧ 1 < s[i].toNat
   ·obtain ⟨h9, h1⟩ := h9
    have h9' : ((i : Int) == 9) = true := by simp; omega
    have h1' : (1 : Int) < (s[i].toNat : Int) := by omega
    have H9 := Lib.hid h9
    clear h9
    go_wp2_with fail
    go_quiet (fail)
    go_wp2_with fail
    go_ret3
    exact ⟨sevV_none (by rw [Hs.out, sev_over H9.out h1]), (Chg.refl _ _).drewN _⟩
   ·have H9 := Lib.hid (show i = 9 → s[i].toNat ≤ 1 from fun e => Nat.le_of_not_lt (fun h => h9 ⟨e, h⟩))
    have H9b : (((i : Int) == 9) = true ∧ (s[i].toNat : Int) ≤ 1) ∨ ((i : Int) == 9) = false := by
     by_cases e : i = 9
     ·left; have := H9.out e; exact ⟨by simp [e], by omega⟩
     ·right; simp; omega
    clear h9
    by_cases h0 : s[i].toNat = 0
    ·have h0' : ((s[i].toNat : Int) == 0) = true := by simp [h0]
     by_cases hi : 0 < i
     ·have hi' : (0 : Int) < (i : Int) := by omega
      have H0 := Lib.hid h0
      rcases H9b with ⟨h9', h1'⟩ | h9'
      all_goals
       go_wp2_with fail
       go_quiet (fail)
       go_wp2_with fail
       go_ret3
       exact ⟨sevV_none (by rw [Hs.out, sev_zero hi H0.out]), (Chg.refl _ _).drewN _⟩
     ·obtain rfl : i = 0 := by omega
      obtain rfl : acc = 0 := by simpa using Ha.out
      have H0 := Lib.hid h0
      clear H9b
      go_wp2_with fail
      go_ret3
      exact ⟨sevV_some (n := 0 + s[0].toNat * 2 ^ (7 * 0)) (u := 1) (by rw [Hs.out, sev_last (by omega) (fun _ => by omega) (fun h => absurd h (by omega)) (by omega)]) (by rw [H0.out]; rfl) rfl, Chg.refl _ _⟩
    ·have h0' : ((s[i].toNat : Int) == 0) = false := by simpa using h0
     by_cases h128 : s[i].toNat < 128
     ·have h128' : (s[i].toNat : Int) < 128 := by omega
      rcases H9b with ⟨h9', h1'⟩ | h9'
      all_goals
       go_wp2_with fail
       go_ret3
       exact ⟨sevV_some (n := acc + s[i].toNat * 2 ^ (7 * i)) (u := i + 1) (by rw [Hs.out, sev_last hi9 H9.out (fun _ => h0) h128]) (sv_orLast hi9 Ha.out H9.out h128) rfl, Chg.refl _ _⟩
     ·have h128' : ¬ (s[i].toNat : Int) < 128 := by omega
      have h9n : i < 9 := by
       by_cases e : i = 9
       ·have := H9.out e; omega
       ·omega
      have h9' : ((i : Int) == 9) = false := by simp; omega
      clear H9b
      go_wp2_with fail
      go_round
      case rel => exact ⟨i + 1, acc + s[i].toNat % 128 * 2 ^ (7 * i), by omega, by omega, congrArg (Value.int .u64) (sv_or hi9 Ha.out H9.out), by go_num, sev_accMore _ Ha.out, by rw [Hs.out, sev_more h9n (by omega)]⟩
      case measure => simp [intOf]; omega
  ·have Hs := Lib.hid hsv
   clear hsv
   go_wp2_with fail
   go_quiet (fail)
   go_wp2_with fail
   go_ret3
   exact ⟨sevV_none (by rw [Hs.out, List.drop_of_length_le (by rw [Array.length_toList]; exact Nat.le_of_not_lt hlt)]; rfl), (Chg.refl _ _).drewN _⟩
def longV (e : Value) : Option (List UInt8 × Nat) → Value
 | none => .tuple #[.string ⟨#[]⟩, .int .i64 0, e]
 | some (x, k) => .tuple #[.string ⟨x.toArray⟩, .int .i64 k, .nilIface]
theorem longV_none {e : Value} {o : Option (List UInt8 × Nat)} (h : o = none) : Ending.returned (.tuple #[.string ⟨#[]⟩, .int .i64 0, e]) = .returned (longV e o) := by subst h; rfl
theorem longV_some {e : Value} {o : Option (List UInt8 × Nat)} {s : ByteArray} {b : Int} {x : List UInt8} {k : Nat} (h : o = some (x, k)) (ha : s = ⟨x.toArray⟩) (hb : b = k) : Ending.returned (.tuple #[.string s, .int .i64 b, .nilIface]) = .returned (longV e o) := by subst h ha hb; rfl
theorem ext_of (s : ByteArray) (a b : Nat) : s.extract a b = ⟨((s.data.toList.drop a).take (b - a)).toArray⟩ := by
 apply ByteArray.ext
 apply Array.toList_inj.1
 rw [ByteArray.data_extract, Array.toList_extract, List.extract_eq_take_drop]
theorem lt_cell {w : World} {p : Addr} {v : Value} (h : w.cell? p = some v) : p.block < w.heap.size := by
 unfold World.cell? at h
 cases hb : w.heap[p.block]? with
 | none => rw [hb] at h; simp at h
 | some o => exact lt_of_block hb
theorem size_list (s : ByteArray) : s.data.toList.length = s.size := Array.length_toList
theorem readText_any (s : ByteArray) (w : World) (e : Value) (he : ∃ T v, e = .iface T v) (hce : w.cell? ⟨2, 0, none⟩ = some e) (hs : s.size ≤ 9000000000000000000) :
  Calls Tryz.prog 28 #[.string s] w (RetV (longV e (longR s.data.toList)) w) := by
 have hsz := size_list s
 have Hsz := Lib.hid hsz
 clear hsz
 have hlt : (2 : Nat) < w.heap.size := lt_cell hce
 obtain ⟨T, v, rfl⟩ := he
 go_enter Tryz.func28, Tryz.ntmps28
 go_wp2_with fail
 refine (readUvarint_any s w _ ⟨T, v, rfl⟩ hce hs).mono ?_
 rintro en w1 ⟨rfl, hc1⟩
 have hce1 := (hc1.cell hlt nbE).trans hce
 cases hsv : sev s.data.toList with
 | none =>
  have H := Lib.hid hsv
  clear hsv
  simp only [sevV]
  go_wp2_with fail
  go_ret3
  exact ⟨longV_none (longR_none H.out), hc1⟩
 | some p =>
  obtain ⟨n, u⟩ := p
  obtain ⟨b1, b2, b3, b4⟩ := sev_some hsv
  rw [Hsz.out] at b3
  have H := Lib.hid hsv
  clear hsv
  simp only [sevV]
  by_cases hn : 200000 < n
  ·have hn' : (200000 : Int) < (n : Int) := by omega
   go_wp2_with fail
   go_quiet (fail)
   go_wp2_with fail
   go_ret3
   exact ⟨longV_none (longR_bad H.out (.inl hn)), hc1.drewN _⟩
  ·have hn' : (n : Int) ≤ 200000 := by omega
   by_cases hl : s.size < u + n
   ·have hl' : (s.size : Int) < (u : Int) + (n : Int) := by omega
    go_wp2_with fail
    go_quiet (fail)
    go_wp2_with fail
    go_ret3
    exact ⟨longV_none (longR_bad H.out (.inr (by rw [Hsz.out]; exact hl))), hc1.drewN _⟩
   ·have hl' : (u : Int) + (n : Int) ≤ (s.size : Int) := by omega
    go_wp2_with fail
    go_ret3
    refine ⟨longV_some (x := (s.data.toList.drop u).take n) (k := u + n) (longR_ok H.out (by omega) (by rw [Hsz.out]; omega)) ?_ rfl, hc1⟩
    show s.extract _ _ = _
    rw [ext_of]
    congr 3
    omega
theorem dat_list (l : List UInt8) : (⟨l.toArray⟩ : ByteArray).data.toList = l := by simp
theorem siz_list (l : List UInt8) : (⟨l.toArray⟩ : ByteArray).size = l.length := by simp [ByteArray.size]
theorem ruL_any (l : List UInt8) (w : World) (e : Value) (he : ∃ T v, e = .iface T v) (hce : w.cell? ⟨2, 0, none⟩ = some e) (hs : l.length ≤ 9000000000000000000) :
  Calls Tryz.prog 27 #[.string ⟨l.toArray⟩] w (RetV (sevV e (sev l)) w) := by
 have h := readUvarint_any ⟨l.toArray⟩ w e he hce (by rw [siz_list]; exact hs)
 rwa [dat_list] at h
theorem rtL_any (l : List UInt8) (w : World) (e : Value) (he : ∃ T v, e = .iface T v) (hce : w.cell? ⟨2, 0, none⟩ = some e) (hs : l.length ≤ 9000000000000000000) :
  Calls Tryz.prog 28 #[.string ⟨l.toArray⟩] w (RetV (longV e (longR l)) w) := by
 have h := readText_any ⟨l.toArray⟩ w e he hce (by rw [siz_list]; exact hs)
 rwa [dat_list] at h
theorem extL (l : List UInt8) (a : Nat) : (⟨l.toArray⟩ : ByteArray).extract a l.length = ⟨(l.drop a).toArray⟩ := by
 rw [ext_of, dat_list, List.take_of_length_le (by rw [List.length_drop]; exact Nat.le_refl _)]
def strL : Value → Nat
 | .string s => s.size
 | _ => 0
def crcStep (c : Nat) : Nat := (c / 2) ^^^ (if c % 2 = 1 then 3988292384 else 0)
def crcSteps : Nat → Nat → Nat
 | 0, c => c
 | k + 1, c => crcStep (crcSteps k c)
def crcByte (c : Nat) (b : UInt8) : Nat := crcSteps 8 (c ^^^ b.toNat)
def crcRun (c : Nat) (l : List UInt8) : Nat := l.foldl crcByte c
def crcF (l : List UInt8) : Nat := crcRun 4294967295 l ^^^ 4294967295
theorem crc_half (a b : Nat) : (a ^^^ b) / 2 = (a / 2) ^^^ (b / 2) := by
 have := Nat.shiftRight_xor_distrib (a := a) (b := b) (i := 1)
 simpa [Nat.shiftRight_succ] using this
theorem crcStep_xor (a b : Nat) : crcStep (a ^^^ b) = crcStep a ^^^ crcStep b := by
 have h : (a ^^^ b) % 2 = (a % 2 + b % 2) % 2 := by
  have := Nat.xor_mod_two_pow (a := a) (b := b) (n := 1)
  simp only [Nat.pow_one] at this
  rw [this]
  rcases Nat.mod_two_eq_zero_or_one a with ha | ha <;> rcases Nat.mod_two_eq_zero_or_one b with hb | hb <;> simp [ha, hb]
 unfold crcStep
 rw [crc_half, h]
 generalize a / 2 = x
 generalize b / 2 = y
 rcases Nat.mod_two_eq_zero_or_one a with ha | ha <;> rcases Nat.mod_two_eq_zero_or_one b with hb | hb <;> simp only [ha, hb]
 ·simp
 ·simp [Nat.xor_assoc]
 ·have e : (x ^^^ 3988292384) ^^^ y = (x ^^^ y) ^^^ 3988292384 := by rw [Nat.xor_assoc, Nat.xor_comm _ y, ← Nat.xor_assoc]
  simp [e]
 ·have e : (x ^^^ 3988292384) ^^^ (y ^^^ 3988292384) = x ^^^ y := by
   rw [Nat.xor_assoc, Nat.xor_comm y, ← Nat.xor_assoc 3988292384, Nat.xor_self, Nat.zero_xor]
  simp [e]
theorem crcSteps_xor : ∀ (k a b : Nat), crcSteps k (a ^^^ b) = crcSteps k a ^^^ crcSteps k b
 | 0, _, _ => rfl
 | k + 1, a, b => by simp only [crcSteps]; rw [crcSteps_xor k a b, crcStep_xor]
theorem crcSteps_in : ∀ (k c : Nat), crcSteps (k + 1) c = crcSteps k (crcStep c)
 | 0, _ => rfl
 | k + 1, c => by
  have := crcSteps_in k c
  show crcStep (crcSteps (k + 1) c) = crcStep (crcSteps k (crcStep c))
  rw [this]
theorem crcStep_double (m : Nat) : crcStep (2 * m) = m := by
 unfold crcStep
 rw [if_neg (by omega), Nat.xor_zero]
 omega
theorem crcSteps_double : ∀ (k m : Nat), crcSteps k (2 ^ k * m) = m
 | 0, m => by simp [crcSteps]
 | k + 1, m => by
  rw [crcSteps_in, Nat.pow_succ, Nat.mul_comm (2 ^ k) 2, Nat.mul_assoc, crcStep_double, crcSteps_double k m]
theorem crc_parts (c : Nat) : c = (c % 256) ^^^ (256 * (c / 256)) := by
 refine Nat.eq_of_testBit_eq fun i => ?_
 have h1 := Nat.testBit_mod_two_pow c 8 i
 have h2 := Nat.testBit_two_pow_mul (i := 8) (a := c / 256) (j := i)
 have h3 := Nat.testBit_div_two_pow (n := 8) c (i - 8)
 simp only [show (2 : Nat) ^ 8 = 256 from rfl] at h1 h2 h3
 rw [Nat.testBit_xor, h1, h2]
 by_cases hi : 8 ≤ i
 ·rw [h3, show i - 8 + 8 = i from by omega]
  have h8 : decide (i < 8) = false := by simpa using hi
  simp [hi, h8]
 ·have h8 : decide (i < 8) = true := by simpa using hi
  simp [hi, h8]
theorem crcByte_tab (c : Nat) (b : UInt8) : crcByte c b = crcSteps 8 ((c % 256) ^^^ b.toNat) ^^^ (c / 256) := by
 unfold crcByte
 have e : c ^^^ b.toNat = ((c % 256) ^^^ b.toNat) ^^^ (256 * (c / 256)) := by
  conv => lhs; rw [crc_parts c]
  rw [Nat.xor_assoc, Nat.xor_comm (256 * (c / 256)), ← Nat.xor_assoc]
 rw [e, crcSteps_xor]
 have := crcSteps_double 8 (c / 256)
 rw [show (2 : Nat) ^ 8 = 256 from rfl] at this
 rw [this]
theorem crcStep_lt {c : Nat} (h : c < 4294967296) : crcStep c < 4294967296 := by
 unfold crcStep
 refine Nat.xor_lt_two_pow (n := 32) (by omega) ?_
 split <;> omega
theorem crcSteps_lt : ∀ (k : Nat) {c : Nat}, c < 4294967296 → crcSteps k c < 4294967296
 | 0, _, h => h
 | k + 1, _, h => crcStep_lt (crcSteps_lt k h)
theorem crcByte_lt {c : Nat} (h : c < 4294967296) (b : UInt8) : crcByte c b < 4294967296 :=
 crcSteps_lt 8 (Nat.xor_lt_two_pow (n := 32) h (Nat.lt_of_lt_of_le b.toNat_lt (by decide)))
theorem crcRun_lt : ∀ (l : List UInt8) {c : Nat}, c < 4294967296 → crcRun c l < 4294967296
 | [], _, h => h
 | b :: r, _, h => crcRun_lt r (crcByte_lt h b)
theorem crcF_lt (l : List UInt8) : crcF l < 4294967296 := Nat.xor_lt_two_pow (n := 32) (crcRun_lt l (by decide)) (by decide)
theorem crcRun_snoc (c : Nat) (l : List UInt8) (b : UInt8) : crcRun c (l ++ [b]) = crcByte (crcRun c l) b := by
 unfold crcRun
 rw [List.foldl_append]
 rfl
def leL : Nat → Nat → List UInt8
 | 0, _ => []
 | k + 1, n => (n % 256).toUInt8 :: leL k (n / 256)
def leV : List UInt8 → Nat
 | [] => 0
 | c :: r => c.toNat + 256 * leV r
theorem leL_length : ∀ (k n : Nat), (leL k n).length = k
 | 0, _ => rfl
 | k + 1, n => by simp [leL, leL_length k]
theorem leV_lt : ∀ (l : List UInt8), leV l < 256 ^ l.length
 | [] => by simp [leV]
 | c :: r => by
  have h1 := leV_lt r
  have h2 := c.toNat_lt
  simp only [leV, List.length_cons, Nat.pow_succ]
  generalize 256 ^ r.length = p at *
  omega
theorem leV_snoc : ∀ (l : List UInt8) (c : UInt8), leV (l ++ [c]) = leV l + c.toNat * 256 ^ l.length
 | [], c => by simp [leV]
 | b :: r, c => by
  simp only [List.cons_append, leV, List.length_cons, leV_snoc r c, Nat.pow_succ]
  rw [Nat.mul_add, ← Nat.mul_assoc, Nat.mul_comm 256 c.toNat, Nat.mul_assoc, Nat.mul_comm 256 (256 ^ r.length), Nat.add_assoc]
open Go.ChangeShapes Go.WideShapes Go.RowKit
theorem errStar : "*" ++ "errors.errorString" = "*errors.errorString" := by decide
theorem errRow (u : TypeId) (h : Tryz.prog.typeName? 3 u = some "*errors.errorString") : u = 272 :=
 typeName_ptr_named (nm := "errors.errorString") (by rw [errStar]; kernel_rfl) (by kernel_rfl) (by decide) u (by rw [errStar]; exact h)
theorem laid_get2 {P : Program} {W : World} {n : String} {d : DataW Unit} : ∀ {l : List (String × DataW Unit)} {ps : List MemPlace}, DataW.LaidVars P W l ps → (n, d) ∈ l →
  ∃ g t cs fuel p, P.globalNamed n = some g ∧ (P.globals[g]?).map (·.type) = some t ∧ W.var? P n = some cs ∧ DataW.trod (fun _ => ()) P W 0 (fun _ => true) false fuel t cs.toList = some (d, p) ∧
   (∀ x ∈ MemPlace.row ⟨g, 0, none⟩ cs.size, x ∈ ps) ∧ ∀ x ∈ p, x ∈ ps
 | [], _, _, h => by cases h
 | (n', d') :: r, ps, hl, h => by
  obtain ⟨g, t, cs, fuel, p, q, h1, h2, h3, h4, h5, h6⟩ := hl
  rcases List.mem_cons.1 h with h | h
  ·obtain ⟨rfl, rfl⟩ := Prod.mk.inj h
   exact ⟨g, t, cs, fuel, p, h1, h2, h3, h4, fun x hx => by rw [h6]; simp [hx], fun x hx => by rw [h6]; simp [hx]⟩
  ·obtain ⟨g', t', cs', f', p', a1, a2, a3, a4, a5, a6⟩ := laid_get2 h5 h
   exact ⟨g', t', cs', f', p', a1, a2, a3, a4, fun x hx => by rw [h6]; simp [a5 x hx], fun x hx => by rw [h6]; simp [a6 x hx]⟩
theorem laid_sent {W : World} {n : String} {l : List UInt8} {lv : List (String × DataW Unit)} {g : Nat} (hL : laidMet Tryz.prog lv W) (hm : (n, errText l) ∈ lv)
  (hg : Tryz.prog.globalNamed n = some g) (hty : (Tryz.prog.globals[g]?).map (·.type) = some 25) :
  ∃ a s, W.cell? ⟨g, 0, none⟩ = some (sv a) ∧ W.cell? a = some (.string s) ∧ s.data.toList = l ∧ ∃ c t, W.heap[a.block]? = some (.cells c t (0, 0)) := by
 obtain ⟨ps, hV, _, hrows⟩ := hL
 obtain ⟨g', t', cs, fuel, p, h1, h2, h3, h4, h5, h6⟩ := laid_get2 hV hm
 obtain rfl := Option.some.inj (hg.symm.trans h1)
 obtain rfl := Option.some.inj (hty.symm.trans h2)
 obtain ⟨l0⟩ := cs
 have ok0 : ∀ u v, l0 = [.iface u v] → Value.okWide Tryz.prog W .any 0 u v := fun u v e => by
  subst e
  exact (hrows g 0 (h5 _ (by simp [MemPlace.row]))).2 u v (by simpa using World.var?_cell hg h3 0)
 obtain ⟨a0, s0, rfl, hc0, hs0, hz0, rfl⟩ := errorString_of_trod Tryz.underlying25 errRow Tryz.underlying272 Tryz.underlying274 rfl rfl Tryz.underlying9 (by kernel_rfl) (by kernel_rfl) h4 ok0
 obtain ⟨c0, t0, hb0⟩ := (hrows a0.block a0.off (h6 _ (by simp [MemPlace.row]))).1
 refine ⟨a0, s0, ?_, hc0, hs0, c0, t0, hb0⟩
 rw [World.var?_cell hg h3, ← Array.getElem?_toList]
 rfl
abbrev lay0 : List (String × DataW Unit) := Rows.tableOpensRow.laid
abbrev layF : List (String × DataW Unit) := lay0.filter fun x => x.2.handleName?.isNone
theorem in_layF {n : String} {d : DataW Unit} (i : Nat) (h : lay0[i]? = some (n, d)) (h2 : d.handleName?.isNone = true) : (n, d) ∈ layF := List.mem_filter.2 ⟨List.mem_of_getElem? h, h2⟩
theorem met_data {W : World} (h : laidMetH Tryz.prog lay0 W) : laidMet Tryz.prog layF W := (show laidMet Tryz.prog layF W ∧ handlesMet Tryz.prog [("errors.errorType", Rows.laid_errors_errorType)] W from h).1
theorem met_handle {W : World} (h : laidMetH Tryz.prog lay0 W) : handlesMet Tryz.prog [("errors.errorType", Rows.laid_errors_errorType)] W := (show laidMet Tryz.prog layF W ∧ handlesMet Tryz.prog [("errors.errorType", Rows.laid_errors_errorType)] W from h).2
theorem lists : Lists layF where
 b := ⟨_, in_layF 6 rfl (by kernel_rfl)⟩
 t := ⟨_, in_layF 5 rfl (by kernel_rfl)⟩
 s := ⟨_, in_layF 7 rfl (by kernel_rfl)⟩
 n := ⟨_, in_layF 9 rfl (by kernel_rfl)⟩
 y := ⟨_, in_layF 14 rfl (by kernel_rfl)⟩
 r := ⟨_, in_layF 13 rfl (by kernel_rfl)⟩
 reps := in_layF 17 rfl (by kernel_rfl)
 kinds := in_layF 18 rfl (by kernel_rfl)
 pow := in_layF 2 rfl (by kernel_rfl)
theorem gNone : Tryz.prog.globalNamed "shredcol/api.ErrNone" = some 1 := by kernel_rfl
theorem gKind : Tryz.prog.globalNamed "shredcol/api.ErrKind" = some 6 := by kernel_rfl
theorem gSum : Tryz.prog.globalNamed "shredcol/api.ErrSum" = some 7 := by kernel_rfl
theorem gSpace : Tryz.prog.globalNamed "shredcol/api.ErrSpace" = some 4 := by kernel_rfl
theorem gType : Tryz.prog.globalNamed "errors.errorType" = some 9 := by kernel_rfl
theorem rtRow : (Tryz.prog.cutTypes.find? (·.1 == "internal/reflectlite.rtype")).map (·.2) = some 187 := by kernel_rfl
theorem oneRow : ((List.range Tryz.prog.types.size).filter fun t => Tryz.prog.rowNamed t [101, 114, 114, 111, 114]) = [25] := by kernel_rfl
theorem handle_cell {W : World} (h : laidMetH Tryz.prog lay0 W) : W.cell? ⟨9, 0, none⟩ = some (.iface 187 (.agg #[.pointer (some ⟨22, 25, none⟩)])) := by
 obtain ⟨name, u, ty, e1, e2, e3, e4, e5⟩ := met_handle h _ (List.mem_singleton.2 rfl)
 have en : name = [101, 114, 114, 111, 114] := by
  have h1 : (Rows.laid_errors_errorType : DataW Unit).handleName? = some [101, 114, 114, 111, 114] := by kernel_rfl
  exact (Option.some.inj (h1.symm.trans e1)).symm
 subst en
 obtain rfl := Option.some.inj (rtRow.symm.trans e2)
 have hm : ty ∈ (List.range Tryz.prog.types.size).filter fun t => Tryz.prog.rowNamed t [101, 114, 114, 111, 114] := List.mem_filter.2 ⟨List.mem_range.2 e3, e4⟩
 rw [oneRow] at hm
 obtain rfl := List.mem_singleton.1 hm
 have hh : typeHandle Tryz.prog 25 = .pointer (some ⟨22, 25, none⟩) := by kernel_rfl
 rw [hh] at e5
 rw [World.var?_cell gType e5 0]
 rfl
def sentText : List (List UInt8) := [[115, 104, 114, 101, 100, 99, 111, 108, 58, 32, 116, 101, 120, 116], [115, 104, 114, 101, 100, 99, 111, 108, 58, 32, 98, 111, 117, 110, 100], [115, 104, 114, 101, 100, 99, 111, 108, 58, 32, 115, 104, 97, 112, 101], [115, 104, 114, 101, 100, 99, 111, 108, 58, 32, 107, 105, 110, 100], [115, 104, 114, 101, 100, 99, 111, 108, 58, 32, 110, 97, 109, 101], [115, 104, 114, 101, 100, 99, 111, 108, 58, 32, 110, 111, 110, 101], [115, 104, 114, 101, 100, 99, 111, 108, 58, 32, 115, 117, 109], [115, 104, 114, 101, 100, 99, 111, 108, 58, 32, 115, 112, 97, 99, 101]]
theorem sent_at {W : World} (h : laidMetH Tryz.prog lay0 W) : ∀ i, i < 8 → ∃ a s, (∀ g, sg[i]? = some g → W.cell? ⟨g, 0, none⟩ = some (sv a)) ∧ W.cell? a = some (.string s) ∧ sentText[i]? = some s.data.toList ∧ ∃ c t, W.heap[a.block]? = some (.cells c t (0, 0)) := by
 have hD := met_data h
 have key : ∀ (n : String) (l : List UInt8) (g i j : Nat), lay0[j]? = some (n, errText l) → (errText l).handleName?.isNone = true → Tryz.prog.globalNamed n = some g → (Tryz.prog.globals[g]?).map (·.type) = some 25 → sg[i]? = some g → sentText[i]? = some l →
   ∃ a s, (∀ g, sg[i]? = some g → W.cell? ⟨g, 0, none⟩ = some (sv a)) ∧ W.cell? a = some (.string s) ∧ sentText[i]? = some s.data.toList ∧ ∃ c t, W.heap[a.block]? = some (.cells c t (0, 0)) := by
  intro n l g i j h1 h2 h3 h4 h5 h6
  obtain ⟨a, s, a1, a2, a3, a4⟩ := laid_sent hD (in_layF j h1 h2) h3 h4
  refine ⟨a, s, fun g' hg' => ?_, a2, by rw [h6, a3], a4⟩
  obtain rfl := Option.some.inj (h5.symm.trans hg')
  exact a1
 intro i hi
 match i, hi with
 | 0, _ => exact key _ _ _ 0 5 rfl (by kernel_rfl) gT (by kernel_rfl) rfl rfl
 | 1, _ => exact key _ _ _ 1 6 rfl (by kernel_rfl) gB (by kernel_rfl) rfl rfl
 | 2, _ => exact key _ _ _ 2 7 rfl (by kernel_rfl) gS (by kernel_rfl) rfl rfl
 | 3, _ => exact key _ _ _ 3 8 rfl (by kernel_rfl) gKind (by kernel_rfl) rfl rfl
 | 4, _ => exact key _ _ _ 4 9 rfl (by kernel_rfl) gN (by kernel_rfl) rfl rfl
 | 5, _ => exact key _ _ _ 5 10 rfl (by kernel_rfl) gNone (by kernel_rfl) rfl rfl
 | 6, _ => exact key _ _ _ 6 11 rfl (by kernel_rfl) gSum (by kernel_rfl) rfl rfl
 | 7, _ => exact key _ _ _ 7 12 rfl (by kernel_rfl) gSpace (by kernel_rfl) rfl rfl
theorem sents_of {W : World} (h : laidMetH Tryz.prog lay0 W) : ∃ A, Sents W A := by
 have h0 := sent_at h
 have h1 : ∀ i, ∃ a, i < 8 → ∃ s, (∀ g, sg[i]? = some g → W.cell? ⟨g, 0, none⟩ = some (sv a)) ∧ W.cell? a = some (.string s) ∧ sentText[i]? = some s.data.toList ∧ ∃ c t, W.heap[a.block]? = some (.cells c t (0, 0)) := fun i => by
  by_cases hi : i < 8
  ·obtain ⟨a, s, hs⟩ := h0 i hi
   exact ⟨a, fun _ => ⟨s, hs⟩⟩
  ·exact ⟨⟨0, 0, none⟩, fun h => absurd h hi⟩
 obtain ⟨A, hA⟩ := Classical.axiomOfChoice h1
 refine ⟨A, ⟨fun i g hg => ?_, fun i hi => ?_, fun i j hi hj hij e => ?_, handle_cell h⟩⟩
 ·have hi : i < 8 := (List.getElem?_eq_some_iff.1 hg).1
  obtain ⟨s, a1, _⟩ := hA i hi
  exact a1 g hg
 ·obtain ⟨s, _, _, _, a4⟩ := hA i hi
  exact a4
 ·obtain ⟨s, _, a2, a3, _⟩ := hA i hi
  obtain ⟨s', _, b2, b3, _⟩ := hA j hj
  rw [e] at a2
  have hs : s = s' := by have := a2.symm.trans b2; simpa using this
  subst hs
  have hnd : sentText.Nodup := by decide +kernel
  exact hij ((List.getElem?_inj (by show i < 8; exact hi) hnd).1 (a3.trans b3.symm))
theorem non_of {W : World} (h : laidMetH Tryz.prog lay0 W) : ∃ N, Non W N := by
 obtain ⟨a, s, a1, _⟩ := sent_at h 5 (by omega)
 exact ⟨_, a1 _ rfl, _, _, rfl⟩
theorem named_of {W : World} {A : Nat → Addr} {E : Er → Value} {N : Value} (hS : Sents W A) (hE : Errs W E) (hN : Non W N) : Named W A E N := by
 refine ⟨hS, fun e => ?_, ?_⟩
 ·have h1 := hE.cell e
  have h2 : W.cell? ⟨e.g, 0, none⟩ = some (sv (A e.i)) := hS.cell e.i e.g (by cases e <;> rfl)
  exact Option.some.inj (h1.symm.trans h2)
 ·exact Option.some.inj (hN.cell.symm.trans (hS.cell 5 _ rfl))
theorem asciiIn : ("strings.asciiSpace", Lib.tabData .u8 Lib.asciiSpaceTab) ∈ layF := in_layF 16 (by kernel_rfl) (by kernel_rfl)
theorem maxLen_of {W : World} (h : W.ShapedOpen Tryz.prog) : ∃ m, W.cell? ⟨15, 0, none⟩ = some (.int .i64 m) := Tryz.laysM146.s1_3 W h
theorem space_of {W : World} (hL : laidMetH Tryz.prog lay0 W) : Lib.TabIs Tryz.prog W "strings.asciiSpace" .u8 Lib.asciiSpaceTab := by
 obtain ⟨ps, hV, _⟩ := met_data hL
 exact laid_tab hV asciiIn ascii_at (t := 110) (e := 5) (by kernel_rfl) Tryz.underlying110 Tryz.underlying5 (by kernel_rfl) (by kernel_rfl)
theorem ascii_lt {w : World} (h : Lib.TabIs Tryz.prog w "strings.asciiSpace" .u8 Lib.asciiSpaceTab) : 8 < w.heap.size := by
 unfold Lib.TabIs World.var? at h
 rw [ascii_at] at h
 simp only [Option.bind_some] at h
 cases hb : w.heap[8]? with
 | none => rw [hb] at h; simp at h
 | some o => exact lt_of_block hb
theorem white_of {W : World} (hL : laidMetH Tryz.prog lay0 W) : Lib.WhiteTab 10 W :=
 whiteTab_of_reads (ρ := Tryz.lays157_ren) { Tryz.lays157 with } ⟨by kernel_rfl, by kernel_rfl, by kernel_rfl, by kernel_rfl, by kernel_rfl, by kernel_rfl, by kernel_rfl, by kernel_rfl⟩ (Lib.laidMet.reads (met_data hL) (in_layF 15 (by kernel_rfl) (by kernel_rfl)))
theorem all_of {W : World} (h : laidMetH Tryz.prog lay0 W) : ∃ A E N, Glo W.heap.size E W ∧ (∀ m, W.cell? ⟨15, 0, none⟩ = some (.int .i64 m) → EvG W.heap.size E N (sv (A 3)) m W) ∧ Named W A E N := by
 obtain ⟨A, hS⟩ := sents_of h
 obtain ⟨E, hG⟩ := glo_of lists (met_data h)
 obtain ⟨N, hN⟩ := non_of h
 have hk := hS.cell 3 _ rfl
 refine ⟨A, E, N, hG, fun m hm => ⟨hG, hN.cell, hk, hm, space_of h, ⟨lt_of_cell hN.cell, lt_of_cell hk, lt_of_cell hm, ascii_lt (space_of h)⟩, hN.form, ⟨_, _, rfl⟩⟩, named_of hS hG.errs hN⟩
noncomputable def handleWorld (os : Os) : World :=
 let w0 := World.holding Tryz.prog os ⟨#[], #[], []⟩
 { w0 with heap := w0.heap.modify 9 fun
   | .cells _ t frozen => .cells #[.iface 187 (.agg #[.pointer (some ⟨22, 25, none⟩)])] t frozen
   | o => o }
noncomputable def laidWorld (os : Os) : World := (handleWorld os).layVars Tryz.prog layF
theorem laidWorld_os (os : Os) : (laidWorld os).os = os := World.layVars_os _ _ _
theorem laidWorld_met (os : Os) (args : Array Value) : laidMetH Tryz.prog lay0 ((laidWorld os).forCall (fun _ _ => 0) ⟨#[], args, []⟩).memory := by
 have e1 : (layF.filter fun x => (layF.map (·.1)).contains x.1) = layF := List.filter_eq_self.2 fun x hx => List.contains_iff_mem.2 (List.mem_map.2 ⟨x, hx, rfl⟩)
 have e2 : (layF.filter fun x => !(layF.map (·.1)).contains x.1) = [] := List.filter_eq_nil_iff.2 fun x hx => by rw [List.contains_iff_mem.2 (List.mem_map.2 ⟨x, hx, rfl⟩)]; simp
 have h : laidMet Tryz.prog layF (laidWorld os) := laidMet_layVars (w0 := handleWorld os) (layF.map (·.1)) [] (by rw [e1]; rfl) (by rw [e1]; kernel_rfl) (by rw [e1]; kernel_rfl) (by rw [e2]; exact LaidIn.none)
 exact laidMetH_of_parts (h.of_heap (by simp [World.memory, World.forCall, Input.heap])) (by kernel_rfl)
end Go.Proofs.YtnmhkafpgohefaaGreatDoor
