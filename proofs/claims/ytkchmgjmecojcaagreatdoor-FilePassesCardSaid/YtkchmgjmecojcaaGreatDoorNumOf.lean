/-
  shredcolref2: a digit, an index of words, a number's words.
-/
import Derived.Test.YtkchmgjmecojcaaGreatDoorWordsLaw
import Derived.Test.YtkchmgjmecojcaaGreatDoorValid2
import Derived.Test.YtkchmgjmecojcaaGreatDoorNext
import Derived.Test.YtkchmgjmecojcaaGreatDoorParse
set_option linter.unusedVariables false
set_option maxHeartbeats 20000000
set_option maxRecDepth 100000
set_option linter.unusedSimpArgs false
namespace Go.Proofs.YtkchmgjmecojcaaGreatDoor
open Go.RowKit
def digitB (c : UInt8) : Bool := decide (48 ≤ c.toNat ∧ c.toNat ≤ 57)
theorem isDigit_any (c : UInt8) (w : World) : Calls Tryz.prog 111 #[.int .u8 (c.toNat : Int)] w fun e w' => e = .returned (.bool (digitB c)) ∧ w' = w := by
 by_cases h1 : 48 ≤ c.toNat
 ·have h1' : (48 : Int) ≤ (c.toNat : Int) := by omega
  by_cases h2 : c.toNat ≤ 57
  ·have h2' : (c.toNat : Int) ≤ 57 := by omega
   have hl : digitB c = true := by simp only [digitB, decide_eq_true_eq]; omega
   have Hl := Lib.hid hl
   clear hl
   go_enter Tryz.func111, Tryz.ntmps111
   go_wp2_with fail
   go_ret
   rw [Hl.out]
   exact ⟨by first | rfl | simp [h1', h2'], rfl⟩
  ·have h2' : ¬ (c.toNat : Int) ≤ 57 := by omega
   have hl : digitB c = false := by simp only [digitB, decide_eq_false_iff_not]; omega
   have Hl := Lib.hid hl
   clear hl
   go_enter Tryz.func111, Tryz.ntmps111
   go_wp2_with fail
   go_ret
   rw [Hl.out]
   exact ⟨by first | rfl | simp [h2'], rfl⟩
 ·have h1' : ¬ (48 : Int) ≤ (c.toNat : Int) := by omega
  have hl : digitB c = false := by simp only [digitB, decide_eq_false_iff_not]; omega
  have Hl := Lib.hid hl
  clear hl
  go_enter Tryz.func111, Tryz.ntmps111
  go_wp2_with fail
  go_ret
  rw [Hl.out]
  exact ⟨by first | rfl | simp [h1'], rfl⟩
theorem str_ne {a b : ByteArray} (h : ¬ a = b) : (a.toList == b.toList) = false := by
 rw [beq_eq_false_iff_ne]
 intro e
 apply h
 rw [Lib.toList_data, Lib.toList_data] at e
 obtain ⟨x⟩ := a
 obtain ⟨y⟩ := b
 have e2 : x = y := Array.toList_inj.1 e
 rw [e2]
theorem idxFrom_drop (zs : List ByteArray) (x : ByteArray) (j : Nat) (hj : j < zs.length) : Lib.idxFromS (zs.drop j) x j = if zs[j] = x then (j : Int) else Lib.idxFromS (zs.drop (j + 1)) x (j + 1) := by
 rw [List.drop_eq_getElem_cons hj]
 rfl
def IxRel (zs : List ByteArray) (x : ByteArray) (w : World) (vj : Value) (wr : World) : Prop := ∃ j : Nat, j ≤ zs.length ∧ vj = .int .i64 (j : Nat) ∧ wr = w ∧ Lib.idxOfS zs x = Lib.idxFromS (zs.drop j) x j
theorem index_any (zs : List ByteArray) (x : ByteArray) (b off cap : Nat) (w : World) (hl : zs.length ≤ 100) (hc : ∀ (j : Nat) (z : ByteArray), zs[j]? = some z → w.cell? ⟨b, off + j, none⟩ = some (.string z)) :
  Calls Tryz.prog 112 #[.slice (some ⟨b, off, none⟩) zs.length cap, .string x] w (fun e w' => e = .returned (.int .i64 (Lib.idxOfS zs x)) ∧ w' = w) := by
 go_enter Tryz.func112, Tryz.ntmps112
 have Hc := Lib.hid hc
 clear hc
 go_wp2_with fail
 go_loopw [5] (fun vj wr => IxRel zs x w vj wr) (fun vj _ => zs.length - (intOf vj).toNat)
 case atStart => exact ⟨0, Nat.zero_le _, rfl, rfl, rfl⟩
 case round =>
  obtain ⟨j, hj, rfl, rfl, heq⟩ := hrel
  by_cases hlt : j < zs.length
  ·have hci := Hc.out j zs[j] (by simp [hlt])
   have hj2 := idxFrom_drop zs x j hlt
   have hltI : (j : Int) < (zs.length : Int) := by omega
   by_cases he : zs[j] = x
   ·rw [if_pos he] at hj2
    have Heq := Lib.hid (heq.trans hj2)
    rw [he] at hci
    clear heq hj2 he
    go_wp2_with fail
    go_ret
    rw [Heq.out]
    exact ⟨rfl, rfl⟩
   ·rw [if_neg he] at hj2
    have Heq := Lib.hid (heq.trans hj2)
    have he' : (zs[j].toList == x.toList) = false := str_ne he
    generalize zs[j] = z at *
    clear heq hj2 he
    go_wp2_with fail
    refine ⟨⟨j + 1, hlt, by go_num, rfl, Heq.out⟩, by simp [intOf]; omega⟩
  ·have hje : j = zs.length := by omega
   have hres : Lib.idxOfS zs x = -1 := by rw [heq, List.drop_eq_nil_of_le (by omega)]; rfl
   have Hres := Lib.hid hres
   have hltI : ¬ (j : Int) < (zs.length : Int) := by omega
   clear heq hres hje
   go_wp2_with fail
   go_ret
   rw [Hres.out]
   exact ⟨rfl, rfl⟩
theorem dval_lt : ∀ (l : List UInt8) (acc : Nat), l.all digitB = true → ∃ m : Nat, dval l (acc : Int) = (m : Int) ∧ m < (acc + 1) * 10 ^ l.length
 | [], acc, _ => ⟨acc, rfl, by simp⟩
 | c :: r, acc, h => by
  simp only [List.all_cons, Bool.and_eq_true] at h
  have hc : 48 ≤ c.toNat ∧ c.toNat ≤ 57 := by simpa [digitB] using h.1
  obtain ⟨m, h1, h2⟩ := dval_lt r (acc * 10 + (c.toNat - 48)) h.2
  refine ⟨m, ?_, ?_⟩
  ·simp only [dval]
   rw [← h1]
   congr 1
   omega
  ·refine Nat.lt_of_lt_of_le h2 ?_
   rw [List.length_cons, Nat.pow_succ, Nat.mul_comm (10 ^ r.length) 10, ← Nat.mul_assoc]
   exact Nat.mul_le_mul_right _ (by omega)
def NuRel (ds : List UInt8) (w : World) (vn vi : Value) (wr : World) : Prop := ∃ (i : Nat) (m : Nat), i ≤ ds.length ∧ i ≤ 4 ∧ vi = .int .i64 (i : Nat) ∧ vn = .int .i64 (m : Nat) ∧ wr = w ∧ dval (ds.take i) 0 = (m : Int) ∧ m ≤ 9999
theorem numberOf_any (ds : List UInt8) (w : World) (hl : ds.length ≤ 8000) (ha : ds.all digitB = true) :
  Calls Tryz.prog 114 #[.string ⟨ds.toArray⟩, .int .i64 4] w (fun e w' => e = .returned (.int .i64 (numberF ds)) ∧ w' = w) := by
 have hsz : (⟨ds.toArray⟩ : ByteArray).size = ds.length := rfl
 go_enter Tryz.func114, Tryz.ntmps114
 have Ha := Lib.hid ha
 clear ha
 go_wp2_with fail
 go_loopw [5, 6] (fun vn vi wr => NuRel ds w vn vi wr) (fun _ vi _ => ds.length - (intOf vi).toNat)
 case atStart => exact ⟨0, 0, Nat.zero_le _, by decide, rfl, rfl, rfl, rfl, by decide⟩
 case round =>
  obtain ⟨i, m, hi, hi4, rfl, rfl, rfl, hd, hm⟩ := hrel
  by_cases hlt : i < ds.length
  ·have hltI : (i : Int) < (ds.length : Int) := by omega
   have hget : (⟨ds.toArray⟩ : ByteArray)[i]'hlt = ds[i]'hlt := rfl
   have hdig : digitB (ds[i]'hlt) = true := List.all_eq_true.1 Ha.out _ (List.getElem_mem hlt)
   have hD := isDigit_any (ds[i]'hlt) wr
   rw [hdig] at hD
   have hc : 48 ≤ (ds[i]'hlt).toNat ∧ (ds[i]'hlt).toNat ≤ 57 := by simpa [digitB] using hdig
   by_cases h4 : i < 4
   ·have h4I : ¬ (4 : Int) ≤ (i : Int) := by omega
    have hd2 : dval (ds.take (i + 1)) 0 = (m : Int) * 10 + ((((ds[i]'hlt).toNat : Nat) : Int) - 48) := by
     rw [List.take_succ_eq_append_getElem hlt, dval_snoc, hd]
    have hm2 : m * 10 + ((ds[i]'hlt).toNat - 48) ≤ 9999 := by
     obtain ⟨m', e1, e2⟩ := dval_lt (ds.take (i + 1)) 0 (List.all_eq_true.2 fun x hx => List.all_eq_true.1 Ha.out x (List.mem_of_mem_take hx))
     have e3 : dval (ds.take (i + 1)) 0 = (m' : Int) := e1
     rw [hd2] at e3
     have e4 : (ds.take (i + 1)).length ≤ 4 := by rw [List.length_take]; omega
     have e5 : 10 ^ (ds.take (i + 1)).length ≤ 10 ^ 4 := Nat.pow_le_pow_right (by decide) e4
     omega
    have Hd2 := Lib.hid hd2
    clear hd hd2 hdig hget
    generalize hx : ds[i]'hlt = x at *
    have hx2 : (⟨ds.toArray⟩ : ByteArray)[i]'hlt = x := hx
    have hx48 : (48 : Int) ≤ (x.toNat : Int) := by omega
    have hx57 : (x.toNat : Int) ≤ 57 := by omega
    clear hx
    go_wp2_with fail
    refine hD.mono ?_
    rintro en w0 ⟨rfl, h0⟩
    obtain rfl := h0.symm
    clear h0
    go_wp2_with fail
    refine ⟨⟨i + 1, m * 10 + (x.toNat - 48), hlt, h4, by go_num, ?_, rfl, ?_, hm2⟩, by simp [intOf]; omega⟩
    ·congr 1; omega
    ·rw [Hd2.out]; omega
   ·have h4I : (4 : Int) ≤ (i : Int) := by omega
    have hres : numberF ds = -1 := by unfold numberF; rw [if_pos (by omega)]
    have Hres := Lib.hid hres
    clear hd hdig hget hres
    generalize hx : ds[i]'hlt = x at *
    have hx2 : (⟨ds.toArray⟩ : ByteArray)[i]'hlt = x := hx
    clear hx
    go_wp2_with fail
    refine hD.mono ?_
    rintro en w0 ⟨rfl, h0⟩
    obtain rfl := h0.symm
    clear h0
    go_wp2_with fail
    go_ret
    rw [Hres.out]
    exact ⟨rfl, rfl⟩
  ·have hltI : ¬ (i : Int) < (ds.length : Int) := by omega
   have hd2 : dval ds 0 = (m : Int) := by rw [← hd, List.take_of_length_le (by omega)]
   have hlen4 : ¬ 4 < ds.length := by omega
   clear hd
   rcases ds with _ | ⟨d, r⟩
   ·have hres : numberF [] = -1 := rfl
    have Hres := Lib.hid hres
    clear hres hd2
    go_wp2_with fail
    go_ret
    rw [Hres.out]
    exact ⟨rfl, rfl⟩
   ·have hpos : 0 < (⟨(d :: r).toArray⟩ : ByteArray).size := Nat.succ_pos _
    by_cases h1 : 1 < (d :: r).length
    ·by_cases h48 : d.toNat = 48
     ·have hres : numberF (d :: r) = -1 := by
       unfold numberF
       rw [if_neg hlen4, if_pos (.inr ⟨h1, by rw [List.head?_cons, show d = 48 from UInt8.toNat_inj.1 h48]⟩)]
      have Hres := Lib.hid hres
      have h1I : (1 : Int) < ((r.length : Nat) : Int) + 1 := by simp only [List.length_cons] at h1; omega
      have h48' : ((((⟨(d :: r).toArray⟩ : ByteArray)[0]'hpos).toNat : Int) == 48) = true := by show ((d.toNat : Int) == 48) = true; simp [h48]
      clear hres hd2 h48
      go_wp2_with fail
      go_ret
      rw [Hres.out]
      exact ⟨rfl, rfl⟩
     ·have hres : numberF (d :: r) = (m : Int) := by
       unfold numberF
       rw [if_neg hlen4, if_neg (by
        rintro (e | ⟨_, e⟩)
        ·cases e
        ·rw [List.head?_cons] at e
         have := Option.some.inj e
         subst this
         exact h48 rfl), hd2]
      have Hres := Lib.hid hres
      have h1I : (1 : Int) < ((r.length : Nat) : Int) + 1 := by simp only [List.length_cons] at h1; omega
      have h48' : ((((⟨(d :: r).toArray⟩ : ByteArray)[0]'hpos).toNat : Int) == 48) = false := by show ((d.toNat : Int) == 48) = false; simp; omega
      clear hres hd2 h48
      go_wp2_with fail
      go_ret
      rw [Hres.out]
      exact ⟨rfl, rfl⟩
    ·have hres : numberF (d :: r) = (m : Int) := by
      unfold numberF
      rw [if_neg hlen4, if_neg (by
       rintro (e | ⟨e, _⟩)
       ·cases e
       ·exact h1 e), hd2]
     have Hres := Lib.hid hres
     have h1I : ¬ (1 : Int) < ((r.length : Nat) : Int) + 1 := by simp only [List.length_cons] at h1; omega
     clear hres hd2
     go_wp2_with fail
     go_ret
     rw [Hres.out]
     exact ⟨rfl, rfl⟩
end Go.Proofs.YtkchmgjmecojcaaGreatDoor
