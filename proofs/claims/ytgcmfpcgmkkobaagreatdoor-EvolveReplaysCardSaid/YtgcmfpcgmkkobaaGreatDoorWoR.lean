/-
  shredcolref2: a digit, an index of words, a number's words.; The document's under and NodeOf.; The document's withoutEmpty.; plain.Code: an error's number and place.
-/
import Derived.Test.YtgcmfpcgmkkobaaGreatDoorWordsLaw
import Derived.Test.YtgcmfpcgmkkobaaGreatDoorValid2
import Derived.Test.YtgcmfpcgmkkobaaGreatDoorNumberT
import Derived.Test.YtgcmfpcgmkkobaaGreatDoorTreeMore
import Derived.Test.YtgcmfpcgmkkobaaGreatDoorRead
import Derived.Test.YtgcmfpcgmkkobaaGreatDoorErrAs2
set_option linter.unusedVariables false
set_option maxHeartbeats 20000000
set_option maxRecDepth 100000
set_option linter.unusedSimpArgs false
namespace Go.Proofs.YtgcmfpcgmkkobaaGreatDoor
open Go.RowKit
def digitB (c : UInt8) : Bool := decide (48 ≤ c.toNat ∧ c.toNat ≤ 57)
theorem isDigit_any (c : UInt8) (w : World) : Calls Tryz.prog 105 #[.int .u8 (c.toNat : Int)] w fun e w' => e = .returned (.bool (digitB c)) ∧ w' = w := by
 by_cases h1 : 48 ≤ c.toNat
 ·have h1' : (48 : Int) ≤ (c.toNat : Int) := by omega
  by_cases h2 : c.toNat ≤ 57
  ·have h2' : (c.toNat : Int) ≤ 57 := by omega
   have hl : digitB c = true := by simp only [digitB, decide_eq_true_eq]; omega
   have Hl := Lib.hid hl
   clear hl
   go_enter Tryz.func105, Tryz.ntmps105
   go_wp2_with fail
   go_ret
   rw [Hl.out]
   exact ⟨by first | rfl | simp [h1', h2'], rfl⟩
  ·have h2' : ¬ (c.toNat : Int) ≤ 57 := by omega
   have hl : digitB c = false := by simp only [digitB, decide_eq_false_iff_not]; omega
   have Hl := Lib.hid hl
   clear hl
   go_enter Tryz.func105, Tryz.ntmps105
   go_wp2_with fail
   go_ret
   rw [Hl.out]
   exact ⟨by first | rfl | simp [h2'], rfl⟩
 ·have h1' : ¬ (48 : Int) ≤ (c.toNat : Int) := by omega
  have hl : digitB c = false := by simp only [digitB, decide_eq_false_iff_not]; omega
  have Hl := Lib.hid hl
  clear hl
  go_enter Tryz.func105, Tryz.ntmps105
  go_wp2_with fail
  go_ret
  rw [Hl.out]
  exact ⟨by first | rfl | simp [h1'], rfl⟩
theorem str_ne {a b : ByteArray} (h : ¬ a = b) : (a.toList == b.toList) = false := by
 rw [beq_eq_false_iff_ne]
 intro e
 apply h
 rw [Lib.toList_data, Lib.toList_data] at e
 obtain ⟨x⟩ := a
 obtain ⟨y⟩ := b
 have e2 : x = y := Array.toList_inj.1 e
 rw [e2]
theorem idxFrom_drop (zs : List ByteArray) (x : ByteArray) (j : Nat) (hj : j < zs.length) : Lib.idxFromS (zs.drop j) x j = if zs[j] = x then (j : Int) else Lib.idxFromS (zs.drop (j + 1)) x (j + 1) := by
 rw [List.drop_eq_getElem_cons hj]
 rfl
def IxRel (zs : List ByteArray) (x : ByteArray) (w : World) (vj : Value) (wr : World) : Prop := ∃ j : Nat, j ≤ zs.length ∧ vj = .int .i64 (j : Nat) ∧ wr = w ∧ Lib.idxOfS zs x = Lib.idxFromS (zs.drop j) x j
theorem index_any (zs : List ByteArray) (x : ByteArray) (b off cap : Nat) (w : World) (hl : zs.length ≤ 100) (hc : ∀ (j : Nat) (z : ByteArray), zs[j]? = some z → w.cell? ⟨b, off + j, none⟩ = some (.string z)) :
  Calls Tryz.prog 104 #[.slice (some ⟨b, off, none⟩) zs.length cap, .string x] w (fun e w' => e = .returned (.int .i64 (Lib.idxOfS zs x)) ∧ w' = w) := by
 go_enter Tryz.func104, Tryz.ntmps104
 have Hc := Lib.hid hc
 clear hc
 go_wp2_with fail
 go_loopw [5] (fun vj wr => IxRel zs x w vj wr) (fun vj _ => zs.length - (intOf vj).toNat)
 case atStart => exact ⟨0, Nat.zero_le _, rfl, rfl, rfl⟩
 case round =>
  obtain ⟨j, hj, rfl, rfl, heq⟩ := hrel
  by_cases hlt : j < zs.length
  ·have hci := Hc.out j zs[j] (by simp [hlt])
   have hj2 := idxFrom_drop zs x j hlt
   have hltI : (j : Int) < (zs.length : Int) := by omega
   by_cases he : zs[j] = x
   ·rw [if_pos he] at hj2
    have Heq := Lib.hid (heq.trans hj2)
    rw [he] at hci
    clear heq hj2 he
    go_wp2_with fail
    go_ret
    rw [Heq.out]
    exact ⟨rfl, rfl⟩
   ·rw [if_neg he] at hj2
    have Heq := Lib.hid (heq.trans hj2)
    have he' : (zs[j].toList == x.toList) = false := str_ne he
    generalize zs[j] = z at *
    clear heq hj2 he
    go_wp2_with fail
    refine ⟨⟨j + 1, hlt, by go_num, rfl, Heq.out⟩, by simp [intOf]; omega⟩
  ·have hje : j = zs.length := by omega
   have hres : Lib.idxOfS zs x = -1 := by rw [heq, List.drop_eq_nil_of_le (by omega)]; rfl
   have Hres := Lib.hid hres
   have hltI : ¬ (j : Int) < (zs.length : Int) := by omega
   clear heq hres hje
   go_wp2_with fail
   go_ret
   rw [Hres.out]
   exact ⟨rfl, rfl⟩
theorem dval_lt : ∀ (l : List UInt8) (acc : Nat), l.all digitB = true → ∃ m : Nat, dval l (acc : Int) = (m : Int) ∧ m < (acc + 1) * 10 ^ l.length
 | [], acc, _ => ⟨acc, rfl, by simp⟩
 | c :: r, acc, h => by
  simp only [List.all_cons, Bool.and_eq_true] at h
  have hc : 48 ≤ c.toNat ∧ c.toNat ≤ 57 := by simpa [digitB] using h.1
  obtain ⟨m, h1, h2⟩ := dval_lt r (acc * 10 + (c.toNat - 48)) h.2
  refine ⟨m, ?_, ?_⟩
  ·simp only [dval]
   rw [← h1]
   congr 1
   omega
  ·refine Nat.lt_of_lt_of_le h2 ?_
   rw [List.length_cons, Nat.pow_succ, Nat.mul_comm (10 ^ r.length) 10, ← Nat.mul_assoc]
   exact Nat.mul_le_mul_right _ (by omega)
theorem digit_eq (b : UInt8) : digitB b = digits.contains b := by
 have key : ∀ n : Fin 256, digitB (UInt8.ofNat n.val) = digits.contains (UInt8.ofNat n.val) := by decide +kernel
 have := key ⟨b.toNat, b.toNat_lt⟩
 simpa using this
theorem digit_all (ds : List UInt8) : ds.all digitB = ds.all (digits.contains ·) := by
 induction ds with
 | nil => rfl
 | cons x xs ih => rw [List.all_cons, List.all_cons, ih, digit_eq]
def numR (ds : List UInt8) : Int := match numF ds with
 | some v => v
 | none => -1
theorem numR_digits {ds : List UInt8} (ha : ds.all digitB = true) : numR ds = numberF ds := by
 rw [digit_all] at ha
 unfold numR numF numberF
 by_cases h4 : 4 < ds.length
 ·rw [if_pos h4]
  split
  ·rename_i v h
   split at h
   ·cases h
   ·rw [if_neg (fun e => by omega)] at h
    cases h
  ·rfl
 ·rw [if_neg h4]
  cases ds with
  | nil => rfl
  | cons d r =>
   rw [numOk_digits ha (by omega) (by simp)]
   dsimp only
   have ht := (trimS_nil (d :: r) digits).2 ha
   by_cases hz : 1 < (d :: r).length ∧ (d :: r).head? = some 48
   ·rw [if_neg (fun e => by
     rcases e.2.2 with e1 | e1
     ·omega
     ·exact e1 hz.2), if_pos (.inr hz)]
   ·rw [if_pos ⟨by omega, ht, by
     by_cases h1 : (d :: r).length = 1
     ·exact .inl h1
     ·refine .inr (fun e => hz ⟨?_, e⟩)
      simp only [List.length_cons] at h1 ⊢
      omega⟩, if_neg (fun e => by
     rcases e with e | e
     ·cases e
     ·exact hz e)]
theorem numR_bad {ds : List UInt8} {i : Nat} (hi : i < ds.length) (h : digitB ds[i] = false ∨ 4 ≤ i) : numR ds = -1 := by
 unfold numR numF
 split
 ·rename_i v hv
  split at hv
  ·cases hv
  ·split at hv
   ·rename_i hc
    have ha := (trimS_nil ds digits).1 hc.2.1
    rcases h with h | h
    ·have := List.all_eq_true.1 ha _ (List.getElem_mem hi)
     rw [← digit_eq, h] at this
     cases this
    ·omega
   ·cases hv
 ·rfl
def NuRel (ds : List UInt8) (w : World) (vn vi : Value) (wr : World) : Prop := ∃ (i : Nat) (m : Nat), i ≤ ds.length ∧ i ≤ 4 ∧ vi = .int .i64 (i : Nat) ∧ vn = .int .i64 (m : Nat) ∧ wr = w ∧ dval (ds.take i) 0 = (m : Int) ∧ m ≤ 9999
theorem numberOf_any (ds : List UInt8) (w : World) (hl : ds.length ≤ 8000) (ha : ds.all digitB = true) :
  Calls Tryz.prog 80 #[.string ⟨ds.toArray⟩, .int .i64 4] w (fun e w' => e = .returned (.int .i64 (numberF ds)) ∧ w' = w) := by
 have hsz : (⟨ds.toArray⟩ : ByteArray).size = ds.length := rfl
 go_enter Tryz.func80, Tryz.ntmps80
 have Ha := Lib.hid ha
 clear ha
 go_wp2_with fail
 go_loopw [5, 6] (fun vn vi wr => NuRel ds w vn vi wr) (fun _ vi _ => ds.length - (intOf vi).toNat)
 case atStart => exact ⟨0, 0, Nat.zero_le _, by decide, rfl, rfl, rfl, rfl, by decide⟩
 case round =>
  obtain ⟨i, m, hi, hi4, rfl, rfl, rfl, hd, hm⟩ := hrel
  by_cases hlt : i < ds.length
  ·have hltI : (i : Int) < (ds.length : Int) := by omega
   have hget : (⟨ds.toArray⟩ : ByteArray)[i]'hlt = ds[i]'hlt := rfl
   have hdig : digitB (ds[i]'hlt) = true := List.all_eq_true.1 Ha.out _ (List.getElem_mem hlt)
   have hD := isDigit_any (ds[i]'hlt) wr
   rw [hdig] at hD
   have hc : 48 ≤ (ds[i]'hlt).toNat ∧ (ds[i]'hlt).toNat ≤ 57 := by simpa [digitB] using hdig
   by_cases h4 : i < 4
   ·have h4I : ¬ (4 : Int) ≤ (i : Int) := by omega
    have hd2 : dval (ds.take (i + 1)) 0 = (m : Int) * 10 + ((((ds[i]'hlt).toNat : Nat) : Int) - 48) := by
     rw [List.take_succ_eq_append_getElem hlt, dval_snoc, hd]
    have hm2 : m * 10 + ((ds[i]'hlt).toNat - 48) ≤ 9999 := by
     obtain ⟨m', e1, e2⟩ := dval_lt (ds.take (i + 1)) 0 (List.all_eq_true.2 fun x hx => List.all_eq_true.1 Ha.out x (List.mem_of_mem_take hx))
     have e3 : dval (ds.take (i + 1)) 0 = (m' : Int) := e1
     rw [hd2] at e3
     have e4 : (ds.take (i + 1)).length ≤ 4 := by rw [List.length_take]; omega
     have e5 : 10 ^ (ds.take (i + 1)).length ≤ 10 ^ 4 := Nat.pow_le_pow_right (by decide) e4
     omega
    have Hd2 := Lib.hid hd2
    clear hd hd2 hdig hget
    generalize hx : ds[i]'hlt = x at *
    have hx2 : (⟨ds.toArray⟩ : ByteArray)[i]'hlt = x := hx
    have hx48 : (48 : Int) ≤ (x.toNat : Int) := by omega
    have hx57 : (x.toNat : Int) ≤ 57 := by omega
    clear hx
    go_wp2_with fail
    refine hD.mono ?_
    rintro en w0 ⟨rfl, h0⟩
    obtain rfl := h0.symm
    clear h0
    go_wp2_with fail
    refine ⟨⟨i + 1, m * 10 + (x.toNat - 48), hlt, h4, by go_num, ?_, rfl, ?_, hm2⟩, by simp [intOf]; omega⟩
    ·congr 1; omega
    ·rw [Hd2.out]; omega
   ·have h4I : (4 : Int) ≤ (i : Int) := by omega
    have hres : numberF ds = -1 := by unfold numberF; rw [if_pos (by omega)]
    have Hres := Lib.hid hres
    clear hd hdig hget hres
    generalize hx : ds[i]'hlt = x at *
    have hx2 : (⟨ds.toArray⟩ : ByteArray)[i]'hlt = x := hx
    clear hx
    go_wp2_with fail
    refine hD.mono ?_
    rintro en w0 ⟨rfl, h0⟩
    obtain rfl := h0.symm
    clear h0
    go_wp2_with fail
    go_ret
    rw [Hres.out]
    exact ⟨rfl, rfl⟩
  ·have hltI : ¬ (i : Int) < (ds.length : Int) := by omega
   have hd2 : dval ds 0 = (m : Int) := by rw [← hd, List.take_of_length_le (by omega)]
   have hlen4 : ¬ 4 < ds.length := by omega
   clear hd
   rcases ds with _ | ⟨d, r⟩
   ·have hres : numberF [] = -1 := rfl
    have Hres := Lib.hid hres
    clear hres hd2
    go_wp2_with fail
    go_ret
    rw [Hres.out]
    exact ⟨rfl, rfl⟩
   ·have hpos : 0 < (⟨(d :: r).toArray⟩ : ByteArray).size := Nat.succ_pos _
    by_cases h1 : 1 < (d :: r).length
    ·by_cases h48 : d.toNat = 48
     ·have hres : numberF (d :: r) = -1 := by
       unfold numberF
       rw [if_neg hlen4, if_pos (.inr ⟨h1, by rw [List.head?_cons, show d = 48 from UInt8.toNat_inj.1 h48]⟩)]
      have Hres := Lib.hid hres
      have h1I : (1 : Int) < ((r.length : Nat) : Int) + 1 := by simp only [List.length_cons] at h1; omega
      have h48' : ((((⟨(d :: r).toArray⟩ : ByteArray)[0]'hpos).toNat : Int) == 48) = true := by show ((d.toNat : Int) == 48) = true; simp [h48]
      clear hres hd2 h48
      go_wp2_with fail
      go_ret
      rw [Hres.out]
      exact ⟨rfl, rfl⟩
     ·have hres : numberF (d :: r) = (m : Int) := by
       unfold numberF
       rw [if_neg hlen4, if_neg (by
        rintro (e | ⟨_, e⟩)
        ·cases e
        ·rw [List.head?_cons] at e
         have := Option.some.inj e
         subst this
         exact h48 rfl), hd2]
      have Hres := Lib.hid hres
      have h1I : (1 : Int) < ((r.length : Nat) : Int) + 1 := by simp only [List.length_cons] at h1; omega
      have h48' : ((((⟨(d :: r).toArray⟩ : ByteArray)[0]'hpos).toNat : Int) == 48) = false := by show ((d.toNat : Int) == 48) = false; simp; omega
      clear hres hd2 h48
      go_wp2_with fail
      go_ret
      rw [Hres.out]
      exact ⟨rfl, rfl⟩
    ·have hres : numberF (d :: r) = (m : Int) := by
      unfold numberF
      rw [if_neg hlen4, if_neg (by
       rintro (e | ⟨e, _⟩)
       ·cases e
       ·exact h1 e), hd2]
     have Hres := Lib.hid hres
     have h1I : ¬ (1 : Int) < ((r.length : Nat) : Int) + 1 := by simp only [List.length_cons] at h1; omega
     clear hres hd2
     go_wp2_with fail
     go_ret
     rw [Hres.out]
     exact ⟨rfl, rfl⟩
def NgRel (s : ByteArray) (w : World) (vn vi : Value) (wr : World) : Prop := ∃ (i : Nat) (m : Nat), i ≤ s.size ∧ i ≤ 4 ∧ vi = .int .i64 (i : Nat) ∧ vn = .int .i64 (m : Nat) ∧ wr = w ∧ dval (s.data.toList.take i) 0 = (m : Int) ∧ m ≤ 9999 ∧ (s.data.toList.take i).all digitB = true
theorem numberOf_gen (s : ByteArray) (w : World) (hl : s.size ≤ 100000) :
  Calls Tryz.prog 80 #[.string s, .int .i64 4] w (fun e w' => e = .returned (.int .i64 (numR s.data.toList)) ∧ w' = w) := by
 by_cases ha : s.data.toList.all digitB = true ∧ s.data.toList.length ≤ 8000
 ·have h := numberOf_any s.data.toList w ha.2 ha.1
  rw [numR_digits ha.1]
  exact h
 ·have Ha := Lib.hid ha
  clear ha
  go_enter Tryz.func80, Tryz.ntmps80
  go_wp2_with fail
  go_loopw [5, 6] (fun vn vi wr => NgRel s w vn vi wr) (fun _ vi _ => s.size - (intOf vi).toNat)
  case atStart => exact ⟨0, 0, Nat.zero_le _, by decide, rfl, rfl, rfl, rfl, by decide, rfl⟩
  case round =>
   obtain ⟨i, m, hi, hi4, rfl, rfl, rfl, hd, hm, hall⟩ := hrel
   by_cases hlt : i < s.size
   ·have hltI : (i : Int) < (s.size : Int) := by omega
    have hlt2 : i < s.data.toList.length := by rw [Array.length_toList]; exact hlt
    have hget : s.data.toList[i]'hlt2 = s[i]'hlt := rfl
    have hD := isDigit_any (s[i]'hlt) wr
    have hbad : digitB (s[i]'hlt) = false ∨ 4 ≤ i → numR s.data.toList = -1 := fun h => numR_bad hlt2 (by rw [hget]; exact h)
    have htake : s.data.toList.take (i + 1) = s.data.toList.take i ++ [s[i]'hlt] := List.take_succ_eq_append_getElem hlt2
    have Hbad := Lib.hid hbad
    have Htake := Lib.hid htake
    have Hd := Lib.hid hd
    have Hall := Lib.hid hall
    clear hbad htake hd hall hget
    generalize hx : s[i]'hlt = x at *
    cases hdx : digitB x with
    | false =>
     rw [hdx] at hD
     have hres := Hbad.out (.inl hdx)
     have Hres := Lib.hid hres
     clear hres hdx
     go_wp2_with fail
     refine hD.mono ?_
     rintro en w0 ⟨rfl, h0⟩
     obtain rfl := h0.symm
     clear h0
     go_wp2_with fail
     go_ret
     rw [Hres.out]
     exact ⟨rfl, rfl⟩
    | true =>
     rw [hdx] at hD
     have hc : 48 ≤ x.toNat ∧ x.toNat ≤ 57 := by simpa [digitB] using hdx
     by_cases h4 : i < 4
     ·have h4I : ¬ (4 : Int) ≤ (i : Int) := by omega
      have hd2 : dval (s.data.toList.take (i + 1)) 0 = (m : Int) * 10 + (((x.toNat : Nat) : Int) - 48) := by
       rw [Htake.out, dval_snoc, Hd.out]
      have hall2 : (s.data.toList.take (i + 1)).all digitB = true := by rw [Htake.out, List.all_append, Hall.out]; simp [hdx]
      have hm2 : m * 10 + (x.toNat - 48) ≤ 9999 := by
       obtain ⟨m', e1, e2⟩ := dval_lt (s.data.toList.take (i + 1)) 0 hall2
       have e3 : dval (s.data.toList.take (i + 1)) 0 = (m' : Int) := e1
       rw [hd2] at e3
       have e4 : (s.data.toList.take (i + 1)).length ≤ 4 := by rw [List.length_take]; omega
       have e5 : 10 ^ (s.data.toList.take (i + 1)).length ≤ 10 ^ 4 := Nat.pow_le_pow_right (by decide) e4
       omega
      have Hd2 := Lib.hid hd2
      have Hall2 := Lib.hid hall2
      have hx48 : (48 : Int) ≤ (x.toNat : Int) := by omega
      have hx57 : (x.toNat : Int) ≤ 57 := by omega
      clear hd2 hall2 hdx
      go_wp2_with fail
      refine hD.mono ?_
      rintro en w0 ⟨rfl, h0⟩
      obtain rfl := h0.symm
      clear h0
      go_wp2_with fail
      refine ⟨⟨i + 1, m * 10 + (x.toNat - 48), hlt, h4, by go_num, ?_, rfl, ?_, hm2, Hall2.out⟩, by simp [intOf]; omega⟩
      ·congr 1; omega
      ·rw [Hd2.out]; omega
     ·have h4I : (4 : Int) ≤ (i : Int) := by omega
      have hres := Hbad.out (.inr (by omega))
      have Hres := Lib.hid hres
      clear hres hdx
      go_wp2_with fail
      refine hD.mono ?_
      rintro en w0 ⟨rfl, h0⟩
      obtain rfl := h0.symm
      clear h0
      go_wp2_with fail
      go_ret
      rw [Hres.out]
      exact ⟨rfl, rfl⟩
   ·exfalso
    have hlen : s.data.toList.length = s.size := Array.length_toList
    rw [List.take_of_length_le (by omega)] at hall
    exact Ha.out ⟨hall, by omega⟩
theorem hasIndex_any (zs : List ByteArray) (x : ByteArray) (b off cap : Nat) (w : World) (hl : zs.length ≤ 100) (hc : ∀ (j : Nat) (z : ByteArray), zs[j]? = some z → w.cell? ⟨b, off + j, none⟩ = some (.string z)) :
  Calls Tryz.prog 79 #[.slice (some ⟨b, off, none⟩) zs.length cap, .string x] w (fun e w' => e = .returned (.int .i64 (Lib.idxOfS zs x)) ∧ w' = w) := by
 have h := index_any zs x b off cap w hl hc
 clear hc
 go_enter Tryz.func79, Tryz.ntmps79
 go_wp2_with fail
 refine h.mono ?_
 rintro en w0 ⟨rfl, h0⟩
 obtain rfl := h0.symm
 clear h0
 go_wp2_with fail
 go_ret
 exact ⟨rfl, rfl⟩
def UnRel (its : List It) (k : Nat) (id : Int) (w : World) (vo vi : Value) (wr : World) : Prop :=
 ∃ j : Nat, j ≤ its.length ∧ vi = .int .i64 (j : Nat) ∧ OwnT wr w.heap.size (fun _ => True) vo (((its.take j).filter (arB id)).map (unN its k)) ∧ Chg NoB w wr
def RetUn (l : List Nd) (w : World) (en : Ending) (w' : World) : Prop := ∃ v, en = .returned v ∧ OwnT w' w.heap.size (fun _ => True) v l ∧ Chg NoB w w'
theorem underR_any (its : List It) (m : Int) (hg : Grow its m) (v : Value) (S : Nat → Prop) : ∀ (k : Nat) (id : Int) (w : World), Its w S v its → m ≤ id + k →
  Calls Tryz.prog 85 #[v, .int .i64 id] w (RetUn (underF its k id) w) := by
 intro k
 induction k using Nat.strongRecOn with
 | _ k ih =>
  intro id w h hk
  have Hih := Lib.hid ih
  clear ih
  have hun := underF_eq hg hk
  rw [hun]
  obtain ⟨a, c, rfl, hlc, hcm, hcell⟩ := h.form
  have hsm := h.small
  unfold maxLen at hcm
  go_enter Tryz.func85, Tryz.ntmps85
  go_wp2_with fail
  go_loopw [5, 6] (fun vo vi wr => UnRel its k id w vo vi wr) (fun _ vi _ => its.length - (intOf vi).toNat)
  case atStart => exact ⟨0, Nat.zero_le _, rfl, OwnT.nil _ _ _, Chg.refl _ _⟩
  case round =>
   obtain ⟨j, hj, rfl, hown, hc⟩ := hrel
   obtain ⟨ao, cp, rfl, hol, hoc⟩ := hown.form
   have hfl : (((its.take j).filter (arB id)).map (unN its k)).length ≤ j := by
    rw [List.length_map]
    have h1 := List.length_filter_le (arB id) (its.take j)
    rw [List.length_take] at h1
    omega
   generalize hL : ((its.take j).filter (arB id)).map (unN its k) = L at hown hol hfl
   have HL := Lib.hid hL
   clear hL
   by_cases hlt : j < its.length
   ·have hltI : (j : Int) < (its.length : Int) := by omega
    obtain ⟨b, off, rfl, hSb, hbw, hE⟩ := hcell (by omega)
    have hgt : its[j]? = some its[j] := List.getElem?_eq_getElem hlt
    have hmem : its[j] ∈ its := List.getElem_mem hlt
    have htake : its.take (j + 1) = its.take j ++ [its[j]] := List.take_succ_eq_append_getElem hlt
    have hA := (hE j its[j] hgt).keep hc nbE
    generalize its[j] = x at hgt hmem htake hA
    have hux := hg.up x hmem
    have hlx := hg.le x hmem
    have Htake := Lib.hid htake
    clear htake hgt hE
    have y0 := hA.id
    have y1 := hA.name
    have y2 := hA.rep
    have y3 := hA.kind
    have y4 := hA.sub
    have y5 := hA.ar
    clear hA
    by_cases hid : x.ar = id
    ·have hidb : (x.ar == id) = true := by rw [beq_iff_eq]; exact hid
     have hnew : ((its.take (j + 1)).filter (arB id)).map (unN its k) = L ++ [unN its k x] := by
      rw [Htake.out, List.filter_append, List.map_append, HL.out, List.filter_cons_of_pos (show arB id x = true from decide_eq_true hid)]
      rfl
     have Hnew := Lib.hid hnew
     have hkp : m ≤ x.n.id + (k - 1 : Nat) := by omega
     have hk1 : k - 1 < k := by omega
     clear hnew hid
     obtain ⟨⟨xi, xn, xr, xk, xs⟩, xa⟩ := x
     simp only [Nd.id, Nd.name, Nd.rep, Nd.kind] at y0 y1 y2 y3 y5 hidb hux hlx hkp
     by_cases hxk : xk = 0
     ·subst hxk
      have hunx : unN its k ⟨.mk xi xn xr 0 xs, xa⟩ = .mk xi xn xr 0 (underF its (k - 1) xi) := rfl
      rw [hunx] at Hnew
      go_wp2_with fail
      generalize hw2 : World.alloc wr _ = w2
      have hc2 : Chg NoB wr w2 := by
       rw [← hw2]
       repeat (first | exact Chg.refl _ _ | apply Chg.alloc | apply Chg.drew)
      have hb2 : Blk w2 (wr.heap.size) (ndCells xi xn xr 0 (.slice none 0 0)) 28 := by
       rw [← hw2]
       repeat (first | exact Blk.newAt (by first | rfl | (simp; done) | (simp; omega)) | apply Blk.alloc | apply Blk.drew)
      clear hw2
      have hcw2 := hc.tr hc2
      refine (Hih.out (k - 1) hk1 xi w2 (h.keep hcw2 (fun _ _ => nbE)) hkp).mono ?_
      rintro en w3 ⟨vs, rfl, hvs, hc3⟩
      obtain ⟨sa, cs, rfl, _, _⟩ := hvs.form
      generalize underF its (k - 1) xi = sub at hvs Hnew ⊢
      have hb3 := hb2.keep hc3 nbE
      have z0 : w3.cell? ⟨wr.heap.size, 0, none⟩ = some (.int .i64 (xi)) := hb3.cell 0
      have z1 : w3.cell? ⟨wr.heap.size, 1, none⟩ = some (.string xn) := hb3.cell 1
      have z2 : w3.cell? ⟨wr.heap.size, 2, none⟩ = some (.int .i64 (xr)) := hb3.cell 2
      have z3 : w3.cell? ⟨wr.heap.size, 3, none⟩ = some (.int .i64 (0)) := hb3.cell 3
      have z4 : w3.cell? ⟨wr.heap.size, 4, none⟩ = some (.slice none 0 0) := hb3.cell 4
      have hz4 : w3.frozen? ⟨wr.heap.size, 4, none⟩ = false := hb3.free 4
      have hl3 := hb3.lt
      have hl2 := hb2.lt
      have hb4 := hb3.set 4 (.slice sa sub.length cs)
      have hc34 : Chg (OneB wr.heap.size) w3 (w3.setCell ⟨wr.heap.size, 4, none⟩ (.slice sa sub.length cs)) := (Chg.refl (OneB wr.heap.size) _).setCell (p := ⟨wr.heap.size, 4, none⟩) (.inl rfl) _
      have hown5 := ((((hown.inHeap.keep hc2 (fun _ _ _ => nbE)).keep hc3 (fun _ _ _ => nbE)).keep hc34 (fun y _ hy e => by have e : y = wr.heap.size := e; have := hy.2; omega)))
      have hsub5 := hvs.keep hc34 (fun y hy _ e => by have e : y = wr.heap.size := e; omega)
      have hc05 : Chg NoB w (w3.setCell ⟨wr.heap.size, 4, none⟩ (.slice sa sub.length cs)) := (hcw2.tr hc3).trans hc34 (fun y e => .inr (by have e : y = wr.heap.size := e; have := hc.size; omega))
      go_wp2_with (at_builtin; refine stop_here ?_)
      refine Stop.go ?_
      have hz34 : w3.heap.size = (w3.setCell ⟨wr.heap.size, 4, none⟩ (.slice sa sub.length cs)).heap.size := by simp
      generalize w3.setCell ⟨wr.heap.size, 4, none⟩ (.slice sa sub.length cs) = w4 at hb4 hc34 hown5 hsub5 hc05 hz34 ⊢
      clear z0 z1 z2 z3 z4 hz4
      generalize hw6 : World.alloc w4 _ = w6
      have hc46 : Chg NoB w4 w6 := by
       rw [← hw6]
       repeat (first | exact Chg.refl _ _ | apply Chg.alloc | apply Chg.drew)
      have hb6 : Blk w6 (w4.heap.size) (ndCells xi xn xr 0 (.slice sa sub.length cs)) 28 := by
       rw [← hw6]
       repeat (first | exact Blk.newAt (by first | rfl | (simp; done) | (simp; omega)) | apply Blk.alloc | apply Blk.drew)
      rw [← hz34] at hb6
      clear hw6
      have hc06 := hc05.tr hc46
      have hown6 := hown5.keep hc46 (fun _ _ _ => nbE)
      have hsub6 := hsub5.keep hc46 (fun _ _ _ => nbE)
      refine wpList_ownT rfl (.tmp 35) (.tmp 37) 26 rfl w.heap.size Tryz.underlying26 infoNode rfl rfl hown6 (nd := .mk xi xn xr 0 sub) ?_ rfl hb6 ?_ ?_ hc06.size ?_
      ·obtain ⟨Fx, k1, k2, k3⟩ := hsub6
       refine ⟨Fx, trN.2 ⟨_, rfl, k1.mono (by have := hcw2.size; omega)⟩, k2, fun y hy h9 => ?_⟩
       have := (k1.lt y hy).1
       have := h9.2
       omega
      ·unfold maxLen; omega
      ·omega
      intro ao2 cp2 w7 hown7 hc67
      have hc07 : Chg NoB w w7 := hc06.trans hc67 (fun y e => .inr (hown6.block y e).1)
      clear hown6 hsub6 hc67
      go_wp2_with fail
      go_roundw
      case rel => exact ⟨j + 1, hlt, by go_num, by rw [Hnew.out]; exact hown7, hc07⟩
      case measure => simp [intOf]; omega
     ·have hxkb : (xk == 0) = false := by rw [beq_eq_false_iff_ne]; exact hxk
      have hunx : unN its k ⟨.mk xi xn xr xk xs, xa⟩ = .mk xi xn xr xk [] := congrArg (Nd.mk xi xn xr xk) (if_neg hxk)
      rw [hunx] at Hnew
      go_wp2_with (at_builtin; refine stop_here ?_)
      refine Stop.go ?_
      generalize hw6 : World.alloc _ _ = w6
      have hc26 : Chg NoB wr w6 := by
       rw [← hw6]
       repeat (first | exact Chg.refl _ _ | apply Chg.alloc | apply Chg.drew)
      have hb6 : Blk w6 (wr.heap.size + 1) (ndCells xi xn xr xk (.slice none 0 0)) 28 := by
       rw [← hw6]
       repeat (first | exact Blk.newAt (by first | rfl | (simp; done) | (simp; omega)) | apply Blk.alloc | apply Blk.drew)
      clear hw6
      have hc06 := hc.tr hc26
      have hown6 := hown.inHeap.keep hc26 (fun _ _ _ => nbE)
      refine wpList_ownT rfl (.tmp 35) (.tmp 37) 26 rfl w.heap.size Tryz.underlying26 infoNode rfl rfl hown6 (nd := .mk xi xn xr xk []) ?_ rfl hb6 ?_ ?_ hc06.size ?_
      ·exact ⟨[], trN.2 ⟨_, rfl, .inl ⟨rfl, rfl, rfl⟩⟩, List.nodup_nil, fun y hy => (List.not_mem_nil hy).elim⟩
      ·unfold maxLen; omega
      ·omega
      intro ao2 cp2 w7 hown7 hc67
      have hc07 : Chg NoB w w7 := hc06.trans hc67 (fun y e => .inr (hown6.block y e).1)
      clear hown6 hc67
      go_wp2_with fail
      go_roundw
      case rel => exact ⟨j + 1, hlt, by go_num, by rw [Hnew.out]; exact hown7, hc07⟩
      case measure => simp [intOf]; omega
    ·have hidb : (x.ar == id) = false := by rw [beq_eq_false_iff_ne]; exact hid
     have hnew : ((its.take (j + 1)).filter (arB id)).map (unN its k) = L := by
      rw [Htake.out, List.filter_append, List.map_append, HL.out, List.filter_cons_of_neg (by rw [show arB id x = false from decide_eq_false hid]; simp)]
      simp
     have Hnew := Lib.hid hnew
     clear hnew hid
     go_wp2_with fail
     go_roundw
     case rel => exact ⟨j + 1, hlt, by go_num, by rw [Hnew.out]; exact hown, hc⟩
     case measure => simp [intOf]; omega
   ·have hltI : ¬ (j : Int) < (its.length : Int) := by omega
    have hjs : its.take j = its := List.take_of_length_le (by omega)
    have hfin := HL.out
    rw [hjs] at hfin
    have Hfin := Lib.hid hfin
    clear hfin
    go_wp2_with fail
    go_ret
    exact ⟨_, rfl, by rw [Hfin.out]; exact hown, hc⟩
def RetRoot (l : List Nd) (w : World) (en : Ending) (w' : World) : Prop := ∃ v F, en = .returned (.agg #[.int .i64 0, .string rootName, .int .i64 1, .int .i64 0, v]) ∧ TrL w' w.heap.size l v F ∧ F.Nodup ∧ Chg NoB w w'
theorem nodeOf_any (its : List It) (m : Int) (hg : Grow its m) (v : Value) (S : Nat → Prop) (k : Nat) (w : World) (h : Its w S v its) (hk : m ≤ k) :
  Calls Tryz.prog 42 #[v] w (RetRoot (underF its k 0) w) := by
 go_enter Tryz.func42, Tryz.ntmps42
 go_wp2_with fail
 generalize hw1 : World.alloc _ _ = w1
 have hc1 : Chg NoB w w1 := by
  rw [← hw1]
  repeat (first | exact Chg.refl _ _ | apply Chg.alloc | apply Chg.drew)
 have hr1 : Blk w1 (w.heap.size) (ndCells 0 ⟨#[]⟩ 0 0 (.slice none 0 0)) 28 := by
  rw [← hw1]
  repeat (first | exact Blk.newAt (by first | rfl | (simp; done) | (simp; omega)) | apply Blk.alloc | apply Blk.drew)
 clear hw1
 refine (underR_any its m hg v S k 0 w1 (h.keep hc1 (fun _ _ => nbE)) (by omega)).mono ?_
 rintro en w2 ⟨vs, rfl, hvs, hc2⟩
 obtain ⟨sa, cs, rfl, _, _⟩ := hvs.form
 generalize hlq : underF its k 0 = l at hvs ⊢
 have Hlq := Lib.hid hlq
 clear hlq
 have hr2 := hr1.keep hc2 nbE
 have z0 : w2.frozen? ⟨w.heap.size, 0, none⟩ = false := hr2.free 0
 have z1 : w2.frozen? ⟨w.heap.size, 1, none⟩ = false := hr2.free 1
 have z2 : w2.frozen? ⟨w.heap.size, 2, none⟩ = false := hr2.free 2
 have z3 : w2.frozen? ⟨w.heap.size, 3, none⟩ = false := hr2.free 3
 have z4 : w2.frozen? ⟨w.heap.size, 4, none⟩ = false := hr2.free 4
 have y0 : w2.cell? ⟨w.heap.size, 0, none⟩ = some (.int .i64 (0)) := hr2.cell 0
 have y1 : w2.cell? ⟨w.heap.size, 1, none⟩ = some (.string ⟨#[]⟩) := hr2.cell 1
 have y2 : w2.cell? ⟨w.heap.size, 2, none⟩ = some (.int .i64 (0)) := hr2.cell 2
 have y3 : w2.cell? ⟨w.heap.size, 3, none⟩ = some (.int .i64 (0)) := hr2.cell 3
 have y4 : w2.cell? ⟨w.heap.size, 4, none⟩ = some (.slice none 0 0) := hr2.cell 4
 have lr := hr2.lt
 have l1 := hr1.lt
 go_wp2_with fail
 have hrE := store5 hr2 (.int .i64 0) (.string ⟨#[114, 111, 111, 116]⟩) (.int .i64 1) (.int .i64 0) (.slice sa l.length cs)
 have hcE := store5_chg w2 w.heap.size (.int .i64 0) (.string ⟨#[114, 111, 111, 116]⟩) (.int .i64 1) (.int .i64 0) (.slice sa l.length cs)
 generalize World.setCell (World.setCell (World.setCell (World.setCell (World.setCell w2 ⟨w.heap.size, 0, none⟩ (.int .i64 0)) ⟨w.heap.size, 1, none⟩ (.string ⟨#[114, 111, 111, 116]⟩)) ⟨w.heap.size, 2, none⟩ (.int .i64 1)) ⟨w.heap.size, 3, none⟩ (.int .i64 0)) ⟨w.heap.size, 4, none⟩ (.slice sa l.length cs) = w9 at hrE hcE ⊢
 have n0 : w9.cell? ⟨w.heap.size, 0, none⟩ = some (.int .i64 (0)) := hrE.cell 0
 have n1 : w9.cell? ⟨w.heap.size, 1, none⟩ = some (.string ⟨#[114, 111, 111, 116]⟩) := hrE.cell 1
 have n2 : w9.cell? ⟨w.heap.size, 2, none⟩ = some (.int .i64 (1)) := hrE.cell 2
 have n3 : w9.cell? ⟨w.heap.size, 3, none⟩ = some (.int .i64 (0)) := hrE.cell 3
 have n4 : w9.cell? ⟨w.heap.size, 4, none⟩ = some (.slice sa l.length cs) := hrE.cell 4
 refine bodyPost_ret (v := .agg #[.int .i64 0, .string ⟨#[114, 111, 111, 116]⟩, .int .i64 1, .int .i64 0, .slice sa l.length cs]) (by simp [results, Tryz.results42, go_sem, n0, n1, n2, n3, n4]) rfl ?_
 obtain ⟨F, k1, k2, _⟩ := hvs
 rw [Hlq.out]
 refine ⟨_, F, rfl, (k1.keep (fun x hx => hcE.block x (k1.lt x hx).2 (fun e => by have e : x = w.heap.size := e; have := (k1.lt x hx).1; omega))).mono hc1.size, k2, (hc1.tr hc2).trans hcE (fun y e => .inr (by have e : y = w.heap.size := e; omega))⟩
def emptyB (its : List It) (x : It) : Bool := decide (x.n.kind = 0) && !(its.any fun y => decide (y.ar = x.n.id))
inductive Wo : List It → List It → Prop
 | stop (l : List It) : (∀ x ∈ l, emptyB l x = false) → Wo l l
 | step (l r : List It) (i : Nat) (x : It) : l[i]? = some x → emptyB l x = true → Wo (l.eraseIdx i) r → Wo l r
inductive WoS : List It → List It → Prop
 | refl (l : List It) : WoS l l
 | step (l m : List It) (i : Nat) (x : It) : WoS l m → m[i]? = some x → emptyB m x = true → WoS l (m.eraseIdx i)
theorem WoS.done {l m : List It} (h : WoS l m) : ∀ {r : List It}, Wo m r → Wo l r := by
 induction h with
 | refl => exact id
 | step m i x h1 h2 h3 ih => exact fun hr => ih (.step _ _ i x h2 h3 hr)
def lenS : Value → Nat
 | .slice _ n _ => n
 | _ => 0
def boolN : Value → Nat
 | .bool true => 1
 | _ => 0
def RetWo (its : List It) (S : Nat → Prop) (w : World) (en : Ending) (w' : World) : Prop := ∃ v r, en = .returned v ∧ Wo its r ∧ Its w' (fun b => S b ∨ w.heap.size ≤ b) v r ∧ Chg NoB w w'
def Wo1 (its : List It) (S : Nat → Prop) (w : World) (vl va : Value) (wr : World) : Prop :=
 ∃ (m : List It) (b : Bool), va = .bool b ∧ WoS its m ∧ Its wr (fun b => S b ∨ w.heap.size ≤ b) vl m ∧ Chg NoB w wr ∧ (b = false → ∀ x ∈ m, emptyB m x = false)
def Wo2 (m : List It) (wr : World) (vi : Value) (wx : World) : Prop := ∃ i : Nat, i ≤ m.length ∧ vi = .int .i64 (i : Nat) ∧ Chg NoB wr wx ∧ ∀ (j : Nat) (x : It), j < i → m[j]? = some x → emptyB m x = false
def Wo3 (m : List It) (id : Int) (wr : World) (vs vk : Value) (wx : World) : Prop := ∃ k : Nat, k ≤ m.length ∧ vk = .int .i64 (k : Nat) ∧ vs = .bool ((m.take k).any fun y => decide (y.ar = id)) ∧ Chg NoB wr wx
theorem withoutEmptyR_any (its : List It) (v : Value) (w : World) (S : Nat → Prop) (h : Its w S v its) :
  Calls Tryz.prog 107 #[v] w (RetWo its S w) := by
 obtain ⟨a0, c0, rfl, _, _, _⟩ := h.form
 go_enter Tryz.func107, Tryz.ntmps107
 go_wp2_with fail
 go_loopw [0, 3] (fun vl va wr => Wo1 its S w vl va wr) (fun vl va _ => 2 * lenS vl + boolN va)
 case atStart => exact ⟨its, true, rfl, .refl _, h.mono (fun b hb => .inl hb), Chg.refl _ _, fun e => by cases e⟩
 case round =>
  obtain ⟨m, b, rfl, hw, hm, hc, hb⟩ := hrel
  obtain ⟨a, c, rfl, hlc, hcm, hcell⟩ := hm.form
  cases b with
  | false =>
   have Hb := Lib.hid (hb rfl)
   clear hb
   go_wp2_with fail
   go_ret
   exact ⟨_, m, rfl, hw.done (.stop _ Hb.out), hm, hc⟩
  | true =>
   clear hb
   have hsm := hm.small
   unfold maxLen at hcm
   go_wp2_with fail
   go_loopw [0, 3, 4] (fun vl va vi wx => vl = .slice a m.length c ∧ va = .bool false ∧ Wo2 m wr vi wx) (fun _ _ vi _ => m.length - (intOf vi).toNat)
   case atStart => exact ⟨rfl, rfl, 0, Nat.zero_le _, rfl, Chg.refl _ _, fun j x hj => by omega⟩
   case round =>
    obtain ⟨w2, hw2⟩ : ∃ x, x = wr := ⟨_, rfl⟩
    subst hw2
    obtain ⟨rfl, rfl, i, hi, rfl, hwx, hno⟩ := hrel
    have Hno := Lib.hid hno
    clear hno
    have hcw := hc.tr hwx
    replace hm := hm.keep hwx (fun _ _ => nbE)
    replace hcell : m.length ≠ 0 → ∃ b off, a = some ⟨b, off, none⟩ ∧ (S b ∨ w.heap.size ≤ b) ∧ b < w2.heap.size ∧ ∀ (j : Nat) (x : It), m[j]? = some x → ItAt w2 b (off + j * 6) x := fun hne => by
     obtain ⟨b, off, h1, h2, h3, h4⟩ := hcell hne
     exact ⟨b, off, h1, h2, Nat.lt_of_lt_of_le h3 hwx.size, fun j x hj => (h4 j x hj).keep hwx nbE⟩
    clear hc
    by_cases hlt : i < m.length
    ·have hltI : (i : Int) < (m.length : Int) := by omega
     obtain ⟨b, off, rfl, hSb, hbw, hE⟩ := hcell (by omega)
     have hg : m[i]? = some m[i] := List.getElem?_eq_getElem hlt
     have hA := hE i m[i] hg
     generalize m[i] = x at hg hA
     have Hg := Lib.hid hg
     clear hg
     obtain ⟨⟨xi, xn, xr, xk, xs⟩, xa⟩ := x
     have y0 := hA.id
     have y3 := hA.kind
     simp only [Nd.id, Nd.kind] at y0 y3
     go_wp2_with fail
     go_loopw [5, 6] (fun vs vk wx => Wo3 m xi w2 vs vk wx) (fun _ vk _ => m.length - (intOf vk).toNat)
     case atStart => exact ⟨0, Nat.zero_le _, rfl, rfl, Chg.refl _ _⟩
     case round =>
      obtain ⟨k, hk, rfl, rfl, hcx⟩ := hrel
      have y0k := (hcx.cell (p := ⟨b, off + i * 6, none⟩) hbw nbE).trans y0
      have y3k := (hcx.cell (p := ⟨b, off + i * 6 + 3, none⟩) hbw nbE).trans y3
      generalize hsm2 : ((m.take k).any fun y => decide (y.ar = xi)) = sm
      have Hsm2 := Lib.hid hsm2
      clear hsm2
      by_cases hkt : k < m.length
      ·have hktI : (k : Int) < (m.length : Int) := by omega
       have hgk : m[k]? = some m[k] := List.getElem?_eq_getElem hkt
       have hAk := (hE k m[k] hgk).ar
       have htk : m.take (k + 1) = m.take k ++ [m[k]] := List.take_succ_eq_append_getElem hkt
       generalize m[k] = z at hgk hAk htk
       obtain ⟨zn, za⟩ := z
       have z5 := (hcx.cell (p := ⟨b, off + k * 6 + 5, none⟩) hbw nbE).trans hAk
       have hnew : ((m.take (k + 1)).any fun y => decide (y.ar = xi)) = (sm || decide (za = xi)) := by rw [htk, List.any_append, Hsm2.out]; simp
       have Hnew := Lib.hid hnew
       clear hnew htk hgk hAk
       cases sm with
       | true =>
        go_wp2_with fail
        refine wp_region_n (fun w' => True) [] (by kernel_rfl) ?_ (fun hSh => ?_)
        ·trivial
        refine n_tA (v := ?_) 0 rfl (Or.inl ⟨by rfl, ?_⟩) ?_
        rotate_left 1
        ·(intro w' hSw; (try dsimp only at hSw); go_simp; try with_reducible rfl)
        simp only [Act.put, qA, qB, qC, qD, qE, qF]
        refine n_tA (v := ?_) 1 rfl (Or.inl ⟨by rfl, ?_⟩) ?_
        rotate_left 1
        ·(intro w' hSw; (try dsimp only at hSw); go_simp; try with_reducible rfl)
        simp only [Act.put, qA, qB, qC, qD, qE, qF]
        refine n_from 2 ?_
        intro htk
        iterate 12
         refine n_tB (v := undef) htk rfl (Or.inr ⟨by rfl, rfl⟩) ?_
         clear htk
         intro htk
         simp only [Nat.reduceAdd] at htk
         simp only [Act.put, qA, qB, qC, qD, qE, qF]
        clear htk
        refine n_tA (v := ?_) 14 rfl (Or.inl ⟨by rfl, ?_⟩) ?_
        rotate_left 1
        ·(intro w' hSw; (try dsimp only at hSw); go_simp; try with_reducible rfl)
        simp only [Act.put, qA, qB, qC, qD, qE, qF]
        refine n_tA (v := ?_) 15 rfl (Or.inl ⟨by rfl, ?_⟩) ?_
        rotate_left 1
        ·(intro w' hSw; (try dsimp only at hSw); go_simp; try with_reducible rfl)
        simp only [Act.put, qA, qB, qC, qD, qE, qF]
        refine n_done (by kernel_rfl) ?_
        go_wp2_with fail
        go_roundw
        case rel => exact ⟨k + 1, hkt, by go_num, by rw [Hnew.out]; rfl, hcx.drew⟩
        case measure => simp [intOf]; omega
       | false =>
        have hzb : ((za : Int) == xi) = decide (za = xi) := by
         by_cases h : za = xi
         ·rw [decide_eq_true h, beq_iff_eq]; exact h
         ·rw [decide_eq_false h, beq_eq_false_iff_ne]; exact h
        go_wp2_with fail
        refine wp_region_n (fun w' => w'.cell? ⟨b, off + i * 6, none⟩ = some (.int .i64 xi) ∧ w'.cell? ⟨b, off + k * 6 + 5, none⟩ = some (.int .i64 za)) [] (by kernel_rfl) ?_ (fun hSh => ?_)
        ·exact ⟨y0k, z5⟩
        refine n_from 0 ?_
        intro htk
        iterate 16
         refine n_tB (v := ?_) htk rfl (Or.inl ⟨by rfl, ?_⟩) ?_
         rotate_left 1
         ·(intro w' hSw; (try dsimp only at hSw); go_simp; try with_reducible rfl)
         clear htk
         intro htk
         simp only [Nat.reduceAdd] at htk
         simp only [Act.put, qA, qB, qC, qD, qE, qF]
        clear htk
        refine n_done (by kernel_rfl) ?_
        go_wp2_with fail
        go_roundw
        case rel => exact ⟨k + 1, hkt, by go_num, by rw [Hnew.out]; simp [hzb], hcx.drew⟩
        case measure => simp [intOf]; omega
      ·have hktI : ¬ (k : Int) < (m.length : Int) := by omega
       have hall : m.take k = m := List.take_of_length_le (by omega)
       have hem : emptyB m ⟨.mk xi xn xr xk xs, xa⟩ = (decide (xk = 0) && !sm) := by rw [← Hsm2.out, hall]; rfl
       have Hem := Lib.hid hem
       clear hem hall
       by_cases hxk : xk = 0
       ·have hxkb : ((xk : Int) == 0) = true := by rw [hxk]; rfl
        cases sm with
        | true =>
         have hem2 : emptyB m ⟨.mk xi xn xr xk xs, xa⟩ = false := by rw [Hem.out]; simp
         have Hem2 := Lib.hid hem2
         clear hem2 hxk
         go_wp2_with fail
         go_roundw
         case rel => exact ⟨rfl, rfl, i + 1, hlt, by go_num, hwx.tr hcx, fun j x hj hjx => by
          rcases Nat.lt_succ_iff_lt_or_eq.1 hj with hj | rfl
          ·exact Hno.out j x hj hjx
          ·obtain rfl := Option.some.inj (Hg.out.symm.trans hjx)
           exact Hem2.out⟩
         case measure => simp [intOf]; omega
        | false =>
         have hem2 : emptyB m ⟨.mk xi xn xr xk xs, xa⟩ = true := by rw [Hem.out, decide_eq_true hxk]; rfl
         have Hem2 := Lib.hid hem2
         clear hem2 hxk
         go_wp2_with fail
         refine (withoutR_any m i _ wr _ (hm.keep hcx (fun _ _ => nbE)) hlt).mono ?_
         rintro en w5 ⟨v5, rfl, ho5, hc5⟩
         have hI5 := ho5.its (by rw [List.length_eraseIdx_of_lt hlt]; omega)
         obtain ⟨a5, c5, rfl, _, _, _⟩ := hI5.form
         have hlen5 : (m.eraseIdx i).length = m.length - 1 := List.length_eraseIdx_of_lt hlt
         go_wp2_with fail
         go_roundw
         case rel =>
          have hz := (hcw.tr hcx).size
          have hI6 : Its w5 (fun b => S b ∨ w.heap.size ≤ b) (.slice a5 (m.eraseIdx i).length c5) (m.eraseIdx i) := hI5.mono (fun b hb => Or.inr (Nat.le_trans hz hb.1))
          rw [hlen5] at hI6
          exact ⟨m.eraseIdx i, true, rfl, .step _ _ _ _ hw Hg.out Hem2.out, hI6, (hcw.tr hcx).tr hc5, fun e => by cases e⟩
         case measure => simp only [lenS, boolN, hlen5]; omega
       ·have hxkb : ((xk : Int) == 0) = false := by rw [beq_eq_false_iff_ne]; exact hxk
        have hem2 : emptyB m ⟨.mk xi xn xr xk xs, xa⟩ = false := by rw [Hem.out, decide_eq_false hxk]; rfl
        have Hem2 := Lib.hid hem2
        clear hem2 hxk
        go_wp2_with fail
        go_roundw
        case rel => exact ⟨rfl, rfl, i + 1, hlt, by go_num, hwx.tr hcx, fun j x hj hjx => by
         rcases Nat.lt_succ_iff_lt_or_eq.1 hj with hj | rfl
         ·exact Hno.out j x hj hjx
         ·obtain rfl := Option.some.inj (Hg.out.symm.trans hjx)
          exact Hem2.out⟩
        case measure => simp [intOf]; omega
    ·have hltI : ¬ (i : Int) < (m.length : Int) := by omega
     go_wp2_with fail
     go_roundw
     case rel => exact ⟨m, false, rfl, hw, hm, hcw, fun _ x hx => by
      obtain ⟨j, hj⟩ := List.getElem?_of_mem hx
      have := (List.getElem?_eq_some_iff.1 hj).1
      exact Hno.out j x (by omega) hj⟩
     case measure => simp [lenS, boolN]
def sg : List Nat := [2, 0, 5, 1, 4, 3, 6, 7]
def sv (a : Addr) : Value := .iface 246 (.pointer (some a))
structure Sents (w : World) (A : Nat → Addr) : Prop where
 cell : ∀ i g, sg[i]? = some g → w.cell? ⟨g, 0, none⟩ = some (sv (A i))
 row : ∀ i, i < 8 → ∃ c t, w.heap[(A i).block]? = some (.cells c t (0, 0))
 ne : ∀ i j, i < 8 → j < 8 → i ≠ j → A i ≠ A j
 ty : w.cell? ⟨8, 0, none⟩ = some (.iface 184 (.agg #[.pointer (some ⟨22, 30, none⟩)]))
theorem Sents.keep0 {w w' : World} {A : Nat → Addr} (h : Sents w A) (hc : Chg NoB w w') : Sents w' A where
 cell := fun i g hg => (hc.cell (lt_of_block' (h.cell i g hg)) nbE).trans (h.cell i g hg)
 row := fun i hi => by
  obtain ⟨c, t, hr⟩ := h.row i hi
  exact ⟨c, t, hc.at hr nbE⟩
 ne := h.ne
 ty := (hc.cell (lt_of_block' h.ty) nbE).trans h.ty
inductive Told (w : World) (A : Nat → Addr) : Value → Int → Int → Prop
 | nil : Told w A .nilIface 0 (-1)
 | sent (i : Nat) (hi : i < 8) : Told w A (sv (A i)) ((i : Int) + 1) (-1)
 | fault (p i : Nat) (at' : Int) (hi : i < 8) (h0 : w.cell? ⟨p, 0, none⟩ = some (.int .i64 at')) (h1 : w.cell? ⟨p, 1, none⟩ = some (sv (A i))) (hb : -9223372036854775808 ≤ at' ∧ at' ≤ 9223372036854775807) :
  Told w A (.iface 66 (.pointer (some ⟨p, 0, none⟩))) ((i : Int) + 1) at'
def RetCode (n at' : Int) (w : World) (en : Ending) (w' : World) : Prop := en = .returned (.tuple #[.int .i64 n, .int .i64 at']) ∧ Chg NoB w w'
def IsAt (A : Nat → Addr) (v : Value) (i : Nat) (w : World) : Prop := ∀ j w', j < 8 → Chg NoB w w' → Calls Tryz.prog 88 #[v, sv (A j)] w' fun e w'' => e = .returned (.bool (decide (j = i))) ∧ w'' = w'
theorem isAt_sent {w : World} {A : Nat → Addr} (h : Sents w A) {i : Nat} (hi : i < 8) : IsAt A (sv (A i)) i w := fun j w' hj hc => by
 by_cases hji : j = i
 ·subst hji
  simp only [decide_true]
  exact is_same (A j) w'
 ·simp only [hji, decide_false]
  obtain ⟨c, t, hr⟩ := (h.keep0 hc).row i hi
  obtain ⟨c2, t2, hr2⟩ := (h.keep0 hc).row j hj
  exact is_other (A i) (A j) c c2 t t2 w' (h.ne i j hi hj (fun e => hji e.symm)) hr hr2
theorem isAt_fault {w : World} {A : Nat → Addr} (h : Sents w A) {i p : Nat} (hi : i < 8) (h1 : w.cell? ⟨p, 1, none⟩ = some (sv (A i))) : IsAt A (.iface 66 (.pointer (some ⟨p, 0, none⟩))) i w := fun j w' hj hc => by
 have h1' : w'.cell? ⟨p, 1, none⟩ = some (sv (A i)) := (hc.cell (lt_of_block' h1) nbE).trans h1
 by_cases hji : j = i
 ·subst hji
  simp only [decide_true]
  exact is_fault_same p (A j) w' h1'
 ·simp only [hji, decide_false]
  obtain ⟨c, t, hr⟩ := (h.keep0 hc).row i hi
  obtain ⟨c2, t2, hr2⟩ := (h.keep0 hc).row j hj
  exact is_fault_other p (A j) (A i) c c2 t t2 w' h1' (h.ne i j hi hj (fun e => hji e.symm)) hr hr2
def codeArr (A : Nat → Addr) : List Value := [.iface 246 (.pointer (some (A 0))), .iface 246 (.pointer (some (A 1))), .iface 246 (.pointer (some (A 2))), .iface 246 (.pointer (some (A 3))), .iface 246 (.pointer (some (A 4))), .iface 246 (.pointer (some (A 5))), .iface 246 (.pointer (some (A 6))), .iface 246 (.pointer (some (A 7)))]
theorem codeArr_get (A : Nat → Addr) : ∀ {j : Nat}, j < 8 → (codeArr A)[j]? = some (sv (A j))
 | 0, _ => rfl
 | 1, _ => rfl
 | 2, _ => rfl
 | 3, _ => rfl
 | 4, _ => rfl
 | 5, _ => rfl
 | 6, _ => rfl
 | 7, _ => rfl
 | j + 8, h => by omega
def CodeRel (w : World) (A : Nat → Addr) (arr i : Nat) (t : Int) (va vi : Value) (wr : World) : Prop :=
 ∃ j : Nat, j ≤ i ∧ va = .int .i64 t ∧ vi = .int .i64 (j : Nat) ∧ Chg NoB w wr ∧ Blk wr arr (codeArr A) 30
theorem code_any (v : Value) (n at' : Int) (w : World) (A : Nat → Addr) (hS : Sents w A) (ht : Told w A v n at') :
  Calls Tryz.prog 47 #[v] w (RetCode n at' w) := by
 cases ht with
 | nil =>
  go_enter Tryz.func47, Tryz.ntmps47
  go_wp2_with fail
  exact bodyPost_ret (v := .tuple #[.int .i64 0, .int .i64 (-1)]) (by simp [results, Tryz.results47, go_sem]) rfl ⟨rfl, Chg.refl _ _⟩
 | sent i hi =>
  have hIs := isAt_sent hS hi
  go_enter Tryz.func47, Tryz.ntmps47
  unfold sv
  go_wp2_with fail
  generalize hw1 : w.alloc _ = w1
  have hc1 : Chg NoB w w1 := by
   rw [← hw1]
   repeat (first | exact Chg.refl _ _ | apply Chg.alloc | apply Chg.drew)
  clear hw1
  refine (as_miss _ _ w1 (hS.keep0 hc1).ty).mono ?_
  rintro en w2 ⟨rfl, hc2⟩
  replace hc2 := hc1.tr hc2
  have hS2 := hS.keep0 hc2
  have g0 := hS2.cell 0 _ rfl
  have g1 := hS2.cell 1 _ rfl
  have g2 := hS2.cell 2 _ rfl
  have g3 := hS2.cell 3 _ rfl
  have g4 := hS2.cell 4 _ rfl
  have g5 := hS2.cell 5 _ rfl
  have g6 := hS2.cell 6 _ rfl
  have g7 := hS2.cell 7 _ rfl
  unfold sv at g0 g1 g2 g3 g4 g5 g6 g7
  go_wp2_with fail
  generalize hwA : World.alloc _ _ = wA
  have hcA : Chg NoB w2 wA := by
   rw [← hwA]
   repeat (first | exact Chg.refl _ _ | apply Chg.alloc | apply Chg.drew)
  have hbA : Blk wA (w2.heap.size) (codeArr A) 30 := by
   rw [← hwA]
   repeat (first | exact Blk.newAt (by first | rfl | (simp; done) | (simp; omega)) | apply Blk.alloc | apply Blk.drew)
  clear hwA g0 g1 g2 g3 g4 g5 g6 g7
  have hcA0 := hc2.tr hcA
  go_loopw [3, 26] (fun va vi wr => CodeRel w A w2.heap.size i (-1) va vi wr) (fun _ vi _ => 8 - (intOf vi).toNat)
  case atStart => exact ⟨0, Nat.zero_le _, rfl, rfl, hcA0, hbA⟩
  case round =>
   obtain ⟨j, hj, rfl, rfl, hcr, hbr⟩ := hrel
   have hj8 : j < 8 := by omega
   have ej : wr.cell? ⟨w2.heap.size, j, none⟩ = some (sv (A j)) := (hbr.cell j).trans (codeArr_get A hj8)
   unfold sv at ej
   have hIj := hIs j
   by_cases hji : j = i
   ·subst hji
    go_wp2_with fail
    refine (hIj _ hj8 hcr).mono ?_
    rintro en w5 ⟨rfl, rfl⟩
    simp only [decide_true]
    clear hIj
    go_wp2_with fail
    exact bodyPost_ret (v := .tuple #[.int .i64 ((j : Int) + 1), .int .i64 (-1)]) (by simp [results, Tryz.results47, go_sem]) rfl ⟨rfl, hcr⟩
   ·go_wp2_with fail
    refine (hIj _ hj8 hcr).mono ?_
    rintro en w5 ⟨rfl, rfl⟩
    simp only [hji, decide_false]
    clear hIj
    go_wp2_with fail
    go_roundw
    case rel => exact ⟨j + 1, by omega, rfl, by go_num, hcr, hbr⟩
    case measure => simp [intOf]; omega
 | fault p i _ hi h0 h1 hb =>
  have hIs := isAt_fault hS hi h1
  go_enter Tryz.func47, Tryz.ntmps47
  go_wp2_with fail
  generalize hw1 : w.alloc _ = w1
  have hc1 : Chg NoB w w1 := by
   rw [← hw1]
   repeat (first | exact Chg.refl _ _ | apply Chg.alloc | apply Chg.drew)
  have hf1 : Blk w1 (w.heap.size) ([.pointer none]) 66 := by
   rw [← hw1]
   repeat (first | exact Blk.newAt (by first | rfl | (simp; done) | (simp; omega)) | apply Blk.alloc | apply Blk.drew)
  clear hw1
  have hlp := lt_of_block' h0
  simp only at hlp
  refine (as_hit ⟨p, 0, none⟩ ⟨w.heap.size, 0, none⟩ (.pointer none) w1 (hS.keep0 hc1).ty (hf1.cell 0) (hf1.free 0)).mono ?_
  rintro en w2 ⟨rfl, hw2⟩
  have hc2 : Chg NoB w w2 := by
   rw [hw2]
   unfold asW
   exact ((((hc1.alloc _).alloc _).alloc _).alloc _).setCell (.inr (Nat.le_refl _)) _
  have hf2 : Blk w2 w.heap.size [.pointer (some ⟨p, 0, none⟩)] 66 := by
   rw [hw2]
   unfold asW
   exact ((((hf1.alloc _).alloc _).alloc _).alloc _).set 0 _
  clear hw2
  have hS2 := hS.keep0 hc2
  have q0 : w2.cell? ⟨w.heap.size, 0, none⟩ = some (.pointer (some ⟨p, 0, none⟩)) := hf2.cell 0
  have q1 : w2.cell? ⟨p, 0, none⟩ = some (.int .i64 at') := (hc2.cell (p := ⟨p, 0, none⟩) hlp nbE).trans h0
  have g0 := hS2.cell 0 _ rfl
  have g1 := hS2.cell 1 _ rfl
  have g2 := hS2.cell 2 _ rfl
  have g3 := hS2.cell 3 _ rfl
  have g4 := hS2.cell 4 _ rfl
  have g5 := hS2.cell 5 _ rfl
  have g6 := hS2.cell 6 _ rfl
  have g7 := hS2.cell 7 _ rfl
  unfold sv at g0 g1 g2 g3 g4 g5 g6 g7
  go_wp2_with fail
  generalize hwA : World.alloc _ _ = wA
  have hcA : Chg NoB w2 wA := by
   rw [← hwA]
   repeat (first | exact Chg.refl _ _ | apply Chg.alloc | apply Chg.drew)
  have hbA : Blk wA (w2.heap.size) (codeArr A) 30 := by
   rw [← hwA]
   repeat (first | exact Blk.newAt (by first | rfl | (simp; done) | (simp; omega)) | apply Blk.alloc | apply Blk.drew)
  clear hwA g0 g1 g2 g3 g4 g5 g6 g7
  have hcA0 := hc2.tr hcA
  go_loopw [3, 26] (fun va vi wr => CodeRel w A w2.heap.size i (at') va vi wr) (fun _ vi _ => 8 - (intOf vi).toNat)
  case atStart => exact ⟨0, Nat.zero_le _, rfl, rfl, hcA0, hbA⟩
  case round =>
   obtain ⟨j, hj, rfl, rfl, hcr, hbr⟩ := hrel
   have hj8 : j < 8 := by omega
   have ej : wr.cell? ⟨w2.heap.size, j, none⟩ = some (sv (A j)) := (hbr.cell j).trans (codeArr_get A hj8)
   unfold sv at ej
   have hIj := hIs j
   by_cases hji : j = i
   ·subst hji
    go_wp2_with fail
    refine (hIj _ hj8 hcr).mono ?_
    rintro en w5 ⟨rfl, rfl⟩
    simp only [decide_true]
    clear hIj
    go_wp2_with fail
    exact bodyPost_ret (v := .tuple #[.int .i64 ((j : Int) + 1), .int .i64 (at')]) (by simp [results, Tryz.results47, go_sem]) rfl ⟨rfl, hcr⟩
   ·go_wp2_with fail
    refine (hIj _ hj8 hcr).mono ?_
    rintro en w5 ⟨rfl, rfl⟩
    simp only [hji, decide_false]
    clear hIj
    go_wp2_with fail
    go_roundw
    case rel => exact ⟨j + 1, by omega, rfl, by go_num, hcr, hbr⟩
    case measure => simp [intOf]; omega
end Go.Proofs.YtgcmfpcgmkkobaaGreatDoor
