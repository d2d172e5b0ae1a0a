/-
  shredcolref2.isLetter, isDigit, WordsOf.
-/
import Derived.Test.YtkchmgjmecojcaaGreatDoorWordsLaw
import Derived.Test.YtkchmgjmecojcaaGreatDoorValid2
import Derived.Test.YtkchmgjmecojcaaGreatDoorRefName
import Derived.Test.YtkchmgjmecojcaaGreatDoorSumR
import Derived.Test.YtkchmgjmecojcaaGreatDoorNumOf
set_option linter.unusedVariables false
set_option maxHeartbeats 20000000
set_option maxRecDepth 100000
set_option linter.unusedSimpArgs false
namespace Go.Proofs.YtkchmgjmecojcaaGreatDoor
open Go.RowKit
theorem digitB_eq (c : UInt8) : digitB c = digits.contains c := by
 unfold digitB
 rw [Bool.eq_iff_iff]
 simp only [decide_eq_true_eq]
 constructor
 ·intro h
  have h2 : c = UInt8.ofNat c.toNat := by simp
  generalize c.toNat = n at h h2
  obtain ⟨h3, h4⟩ := h
  have : n = 48 ∨ n = 49 ∨ n = 50 ∨ n = 51 ∨ n = 52 ∨ n = 53 ∨ n = 54 ∨ n = 55 ∨ n = 56 ∨ n = 57 := by omega
  rcases this with rfl | rfl | rfl | rfl | rfl | rfl | rfl | rfl | rfl | rfl <;> subst h2 <;> decide
 ·exact digit_nat
theorem isLetter_any (c : UInt8) (w : World) : Calls Tryz.prog 110 #[.int .u8 (c.toNat : Int)] w fun e w' => e = .returned (.bool (lower c)) ∧ w' = w := by
 by_cases h1 : 97 ≤ c.toNat
 ·have h1' : (97 : Int) ≤ (c.toNat : Int) := by omega
  by_cases h2 : c.toNat ≤ 122
  ·have h2' : (c.toNat : Int) ≤ 122 := by omega
   have hl : lower c = true := by simp only [lower, decide_eq_true_eq]; omega
   have Hl := Lib.hid hl
   clear hl
   go_enter Tryz.func110, Tryz.ntmps110
   go_wp2_with fail
   go_ret
   rw [Hl.out]
   exact ⟨by first | rfl | simp [h1', h2'], rfl⟩
  ·have h2' : ¬ (c.toNat : Int) ≤ 122 := by omega
   have hl : lower c = false := by simp only [lower, decide_eq_false_iff_not]; omega
   have Hl := Lib.hid hl
   clear hl
   go_enter Tryz.func110, Tryz.ntmps110
   go_wp2_with fail
   go_ret
   rw [Hl.out]
   exact ⟨by first | rfl | simp [h2'], rfl⟩
 ·have h1' : ¬ (97 : Int) ≤ (c.toNat : Int) := by omega
  have hl : lower c = false := by simp only [lower, decide_eq_false_iff_not]; omega
  have Hl := Lib.hid hl
  clear hl
  go_enter Tryz.func110, Tryz.ntmps110
  go_wp2_with fail
  go_ret
  rw [Hl.out]
  exact ⟨by first | rfl | simp [h1'], rfl⟩
def wdDt (x : List UInt8 × Int) : Dt := .agg [.lit (.string ⟨x.1.toArray⟩), .lit (.int .i64 x.2)]
theorem reads_wd (w : World) (S : Nat → Prop) (x : List UInt8 × Int) : Reads w S (wdDt x) [.string ⟨x.1.toArray⟩, .int .i64 x.2] :=
 ⟨[_], _, rfl, ⟨rfl, rfl⟩, [_], _, rfl, ⟨rfl, rfl⟩, rfl⟩
theorem infoWord : (Tryz.prog.info? 209).map (fun i => (i.zero, i.size, i.bytes)) = some (some (.agg #[.string ⟨#[]⟩, .int .i64 0]), 2, 24) := by kernel_rfl
theorem extract_list (s : ByteArray) (a b : Nat) : (s.extract a b).data.toList = (s.data.toList.drop a).take (b - a) := by
 rw [ByteArray.data_extract, Array.toList_extract]
theorem take_tok (l : List UInt8) : l.take (tok l).length = tok l := by
 cases l with
 | nil => rfl
 | cons c r =>
  simp only [tok]
  split
  ·have h := List.takeWhile_prefix (digits.contains ·) (l := r)
   rw [List.length_cons, List.take_succ_cons, ← List.prefix_iff_eq_take.1 h]
  ·split
   ·have h := List.takeWhile_prefix lower (l := c :: r)
    rw [← List.prefix_iff_eq_take.1 h]
   ·rfl
def WoRel (s : ByteArray) (w : World) (vl vi : Value) (wr : World) : Prop :=
 ∃ (i : Nat) (ao : Option Addr) (cap : Nat) (out : List (List UInt8 × Int)), i ≤ s.size ∧ vi = .int .i64 (i : Nat) ∧ vl = .slice ao out.length cap ∧ Chg NoB w wr ∧
  Own wr w.heap.size 209 2 (fun _ => False) vl (out.map wdDt) ∧ out ++ wordsL s.size (skipW (s.data.toList.drop i)) = wordsL s.size (skipW s.data.toList) ∧ out.length ≤ i
def WoIn (p : UInt8 → Bool) (l : List UInt8) (k i : Nat) (s : ByteArray) (vn : Value) : Prop := ∃ n : Nat, 1 ≤ n ∧ i + n ≤ s.size ∧ vn = .int .i64 (n : Nat) ∧ (l.take (n - k)).all p = true
theorem tok_letter {c : UInt8} {r : List UInt8} {n : Nat} (hl : lower c = true) (hn : n ≤ (c :: r).length) (ha : ((c :: r).take n).all lower = true) (he : ∀ x, (c :: r)[n]? = some x → lower x = false) : n = (tok (c :: r)).length := by
 have hc : ¬ c.toNat = 35 := by
  intro e
  simp only [lower, decide_eq_true_eq] at hl
  omega
 simp only [tok, if_neg hc, if_pos hl]
 rw [takeWhile_at hn ha he, List.length_take]
 omega
theorem tok_hash' {c : UInt8} {r : List UInt8} {n : Nat} (hc : c.toNat = 35) (h1 : 1 ≤ n) (hn : n ≤ (c :: r).length) (ha : (r.take (n - 1)).all digitB = true) (he : ∀ x, (c :: r)[n]? = some x → digitB x = false) : n = (tok (c :: r)).length := by
 obtain ⟨m, rfl⟩ : ∃ m, n = m + 1 := ⟨n - 1, by omega⟩
 simp only [Nat.add_sub_cancel] at ha
 simp only [List.length_cons] at hn
 simp only [tok, if_pos hc, List.length_cons]
 have h2 : r.takeWhile (digits.contains ·) = r.take m := takeWhile_at (by omega) (by
  rw [← ha]
  congr 1
  funext x
  exact (digitB_eq x).symm) (fun x hx => by rw [← digitB_eq]; exact he x (by simpa using hx))
 rw [h2, List.length_take]
 omega
theorem tok_single {c : UInt8} {r : List UInt8} (hl : lower c = false) (hc : ¬ c.toNat = 35) : 1 = (tok (c :: r)).length := by
 simp [tok, hc, hl]
theorem wordsOf_any (s : ByteArray) (w : World) (hs : s.size ≤ 8000) :
  Calls Tryz.prog 68 #[.string s] w (RetList 2 (fun _ => False) ((wordsL s.size (skipW s.data.toList)).map wdDt) w) := by
 go_enter Tryz.func68, Tryz.ntmps68
 go_wp2_with fail
 go_loopw [3, 4] (fun vl vi wr => WoRel s w vl vi wr) (fun _ vi _ => s.size - (intOf vi).toNat)
 case atStart => exact ⟨0, none, 0, [], Nat.zero_le _, rfl, rfl, Chg.refl _ _, Own.nil _ _ _ _ _, rfl, Nat.le_refl _⟩
 case round =>
  obtain ⟨i, ao, cap, out, hi, rfl, rfl, hc, ho, heq, hlen⟩ := hrel
  obtain ⟨wo, rfl⟩ : ∃ x, x = wr := ⟨_, rfl⟩
  have Heq := Lib.hid heq
  clear heq
  have hsz : s.data.toList.length = s.size := Array.length_toList
  by_cases hlt : i < s.size
  ·have hlt2 : i < s.data.toList.length := by omega
   have hdrop : s.data.toList.drop i = (s[i]'hlt) :: s.data.toList.drop (i + 1) := List.drop_eq_getElem_cons hlt2
   have hdlen : (s.data.toList.drop i).length = s.size - i := by rw [List.length_drop, hsz]
   have Hdrop1 := Lib.hid hdrop
   clear hdrop
   by_cases h32 : (s[i]'hlt).toNat = 32
   ·have h32' : (((s[i]'hlt).toNat : Nat) : Int) = 32 := by omega
    have hsk : skipW (s.data.toList.drop i) = skipW (s.data.toList.drop (i + 1)) := by rw [Hdrop1.out]; exact skip_cons_ws (.inl h32)
    have Hsk := Lib.hid hsk
    clear hsk h32
    go_wp2_with fail
    refine ⟨⟨i + 1, ao, cap, out, hlt, by go_num, rfl, hc, ho, by rw [← Heq.out, Hsk.out], by omega⟩, by simp [intOf]; omega⟩
   ·by_cases h10 : (s[i]'hlt).toNat = 10
    ·have h10' : (((s[i]'hlt).toNat : Nat) : Int) = 10 := by omega
     have h32' : ¬ (((s[i]'hlt).toNat : Nat) : Int) = 32 := by omega
     have hsk : skipW (s.data.toList.drop i) = skipW (s.data.toList.drop (i + 1)) := by rw [Hdrop1.out]; exact skip_cons_ws (.inr h10)
     have Hsk := Lib.hid hsk
     clear hsk h32 h10
     go_wp2_with fail
     refine ⟨⟨i + 1, ao, cap, out, hlt, by go_num, rfl, hc, ho, by rw [← Heq.out, Hsk.out], by omega⟩, by simp [intOf]; omega⟩
    ·have h10' : ¬ (((s[i]'hlt).toNat : Nat) : Int) = 10 := by omega
     have h32' : ¬ (((s[i]'hlt).toNat : Nat) : Int) = 32 := by omega
     have hsk : skipW (s.data.toList.drop i) = s.data.toList.drop i := by rw [Hdrop1.out]; exact skip_cons_no h32 h10
     clear h32 h10
     generalize hr : s.data.toList.drop (i + 1) = r at Hdrop1
     have hrl : r.length = s.size - i - 1 := by rw [← hr, List.length_drop, hsz]; omega
     obtain ⟨c, hcc⟩ : ∃ c, s[i]'hlt = c := ⟨_, rfl⟩
     have hdrop := Hdrop1.out
     rw [hcc] at hdrop
     rw [hdrop] at hsk
     have Hdrop := Lib.hid hdrop
     have Hsk := Lib.hid (show skipW (s.data.toList.drop i) = c :: r from by rw [hdrop]; exact hsk)
     have Hcc := Lib.hid hcc
     clear hdrop hsk Hdrop1
     have hcl : (c :: r).length = s.size - i := by rw [List.length_cons, hrl]; omega
     have Hr := Lib.hid hr
     clear hr
     rw [hcc] at h10' h32'
     have h32b : ((c.toNat : Int) == 32) = false := by simpa using h32'
     have h10b : ((c.toNat : Int) == 10) = false := by simpa using h10'
     have hget : ∀ (m : Nat) (h : i + m < s.size), (c :: r)[m]? = some (s[i + m]'h) := fun m h => by
      rw [← Hdrop.out, List.getElem?_drop, List.getElem?_eq_getElem (by omega)]
      rfl
     have Hget := Lib.hid hget
     clear hget
     have hiL : (i : Int) < (s.size : Int) := by omega
     go_wp2_with fail
     have hL := isLetter_any c wo
     cases hl : lower c with
     | true =>
      have h35 : ¬ (c.toNat : Int) = 35 := by
       simp only [lower, decide_eq_true_eq] at hl
       omega
      rw [hl] at hL
      have Hl := Lib.hid hl
      clear hl
      refine hL.mono ?_
      rintro en w0 ⟨rfl, h0⟩
      obtain rfl := h0.symm
      clear hL h0
      go_wp2_with fail
      go_loop [5] (fun vn => WoIn lower (c :: r) 0 i s vn) (fun vn => s.size - (intOf vn).toNat)
      case atStart => exact ⟨1, Nat.le_refl _, by omega, rfl, by simp [Hl.out]⟩
      case round =>
       obtain ⟨n, hn1, hn2, rfl, hall⟩ := hrel
       rw [Nat.sub_zero] at hall
       by_cases hin : i + n < s.size
       ·have hinL : (i : Int) + (n : Int) < (s.size : Int) := by omega
        have hg := Hget.out n hin
        have hL2 := isLetter_any (s[i + n]'hin) wo
        cases hlx : lower (s[i + n]'hin) with
        | true =>
         have hall2 : ((c :: r).take (n + 1 - 0)).all lower = true := by
          rw [Nat.sub_zero, List.take_add_one, hg, List.all_append, hall]
          simp [hlx]
         have Hall := Lib.hid hall2
         rw [hlx] at hL2
         clear hall hall2 hg hlx
         go_wp2_with fail
         refine hL2.mono ?_
         rintro en w0 ⟨rfl, h0⟩
         obtain rfl := h0.symm
         clear h0
         go_wp2_with fail
         refine ⟨⟨n + 1, by omega, by omega, by go_num, Hall.out⟩, by simp [intOf]; omega⟩
        | false =>
         have hn : n = (tok (c :: r)).length := tok_letter Hl.out (by omega) hall (fun x hx => by
          rw [hg] at hx
          obtain rfl := Option.some.inj hx
          exact hlx)
         have Hn := Lib.hid hn
         rw [hlx] at hL2
         clear hall hg hlx hn
         go_wp2_with fail
         refine hL2.mono ?_
         rintro en w0 ⟨rfl, h0⟩
         obtain rfl := h0.symm
         clear h0
         have hx : s.extract i (i + n) = ⟨(tok (c :: r)).toArray⟩ := by
          have h1 : (s.extract i (i + n)).data.toList = tok (c :: r) := by
           rw [extract_list, Hdrop.out, Nat.add_sub_cancel_left, Hn.out]
           exact take_tok _
          rw [← h1]
         have hnx : (s.data.toList.drop (i + n)) = (c :: r).drop (tok (c :: r)).length := by rw [← List.drop_drop, Hdrop.out, Hn.out]
         have hst : wordsL s.size (c :: r) = (tok (c :: r), (i : Int)) :: wordsL s.size (skipW (s.data.toList.drop (i + n))) := by
          rw [words_cons s.size (by simp), hnx]
          have h2 : (s.size : Int) - ((c :: r).length : Int) = (i : Int) := by omega
          rw [h2]
          rfl
         have Hx := Lib.hid hx
         have Hst := Lib.hid hst
         clear hx hnx hst
         go_wp2_with (at_builtin; refine stop_here ?_)
         refine Stop.go ?_
         generalize hwA : World.alloc wo _ = wA
         have hcA : Chg NoB wo wA := by
          rw [← hwA]
          repeat (first | exact Chg.refl _ _ | apply Chg.alloc | apply Chg.drew)
         rw [Hx.out] at hwA
         have hbA : Blk wA (wo.heap.size) ([.string ⟨(tok (c :: r)).toArray⟩, .int .i64 (i : Int)]) 209 := by
          rw [← hwA]
          repeat (first | exact Blk.newAt (by first | rfl | (simp; done) | (simp; omega)) | apply Blk.alloc | apply Blk.drew)
         clear hwA
         have hoA := ho.keep hcA (fun _ h => h.elim) (fun _ _ => nbE)
         have hlm : (out.map wdDt).length = out.length := List.length_map ..
         refine wpList_own rfl (.tmp 62) (.tmp 71) 157 rfl w.heap.size 209 Tryz.underlying157 infoWord rfl (by decide) rfl hoA rfl [wdDt (tok (c :: r), (i : Int))] [.string ⟨(tok (c :: r)).toArray⟩, .int .i64 (i : Int)] rfl (ReadsC.single rfl (reads_wd _ _ _)) hbA.news (fun e => by cases e) ?_ ?_ ?_ ?_
         ·rw [hlm]; unfold maxLen; omega
         ·rw [hlm]; omega
         ·have := (hc.tr hcA).size; omega
         intro ao2 cap2 wB hoB hcB hatB
         rw [hlm] at hoB ⊢
         have hcV : Chg NoB w wB := (hc.tr hcA).trans hcB (fun x e => .inr (hoA.block x e).1)
         go_wp2_with fail
         refine ⟨⟨i + n, ao2, cap2, out ++ [(tok (c :: r), (i : Int))], by omega, by go_num, by rw [List.length_append]; rfl, hcV, by rw [List.map_append]; exact hoB, ?_, by rw [List.length_append, List.length_singleton]; omega⟩, by simp [intOf]; omega⟩
         rw [← Heq.out, Hsk.out, Hst.out, List.append_assoc]
         rfl
       ·have hn : n = (tok (c :: r)).length := tok_letter Hl.out (by omega) hall (fun x hx => by
         have := (List.getElem?_eq_some_iff.1 hx).1
         omega)
        have Hn := Lib.hid hn
        have hinL : ¬ (i : Int) + (n : Int) < (s.size : Int) := by omega
        clear hall hn
        have hx : s.extract i (i + n) = ⟨(tok (c :: r)).toArray⟩ := by
         have h1 : (s.extract i (i + n)).data.toList = tok (c :: r) := by
          rw [extract_list, Hdrop.out, Nat.add_sub_cancel_left, Hn.out]
          exact take_tok _
         rw [← h1]
        have hnx : (s.data.toList.drop (i + n)) = (c :: r).drop (tok (c :: r)).length := by rw [← List.drop_drop, Hdrop.out, Hn.out]
        have hst : wordsL s.size (c :: r) = (tok (c :: r), (i : Int)) :: wordsL s.size (skipW (s.data.toList.drop (i + n))) := by
         rw [words_cons s.size (by simp), hnx]
         have h2 : (s.size : Int) - ((c :: r).length : Int) = (i : Int) := by omega
         rw [h2]
         rfl
        have Hx := Lib.hid hx
        have Hst := Lib.hid hst
        clear hx hnx hst
        go_wp2_with (at_builtin; refine stop_here ?_)
        refine Stop.go ?_
        generalize hwA : World.alloc wo _ = wA
        have hcA : Chg NoB wo wA := by
         rw [← hwA]
         repeat (first | exact Chg.refl _ _ | apply Chg.alloc | apply Chg.drew)
        rw [Hx.out] at hwA
        have hbA : Blk wA (wo.heap.size) ([.string ⟨(tok (c :: r)).toArray⟩, .int .i64 (i : Int)]) 209 := by
         rw [← hwA]
         repeat (first | exact Blk.newAt (by first | rfl | (simp; done) | (simp; omega)) | apply Blk.alloc | apply Blk.drew)
        clear hwA
        have hoA := ho.keep hcA (fun _ h => h.elim) (fun _ _ => nbE)
        have hlm : (out.map wdDt).length = out.length := List.length_map ..
        refine wpList_own rfl (.tmp 62) (.tmp 71) 157 rfl w.heap.size 209 Tryz.underlying157 infoWord rfl (by decide) rfl hoA rfl [wdDt (tok (c :: r), (i : Int))] [.string ⟨(tok (c :: r)).toArray⟩, .int .i64 (i : Int)] rfl (ReadsC.single rfl (reads_wd _ _ _)) hbA.news (fun e => by cases e) ?_ ?_ ?_ ?_
        ·rw [hlm]; unfold maxLen; omega
        ·rw [hlm]; omega
        ·have := (hc.tr hcA).size; omega
        intro ao2 cap2 wB hoB hcB hatB
        rw [hlm] at hoB ⊢
        have hcV : Chg NoB w wB := (hc.tr hcA).trans hcB (fun x e => .inr (hoA.block x e).1)
        go_wp2_with fail
        refine ⟨⟨i + n, ao2, cap2, out ++ [(tok (c :: r), (i : Int))], by omega, by go_num, by rw [List.length_append]; rfl, hcV, by rw [List.map_append]; exact hoB, ?_, by rw [List.length_append, List.length_singleton]; omega⟩, by simp [intOf]; omega⟩
        rw [← Heq.out, Hsk.out, Hst.out, List.append_assoc]
        rfl
     | false =>
      rw [hl] at hL
      have Hl := Lib.hid hl
      clear hl
      refine hL.mono ?_
      rintro en w0 ⟨rfl, h0⟩
      obtain rfl := h0.symm
      clear hL h0
      by_cases h35 : c.toNat = 35
      ·have h35' : (c.toNat : Int) = 35 := by omega
       have H35 := Lib.hid h35
       clear h35
       go_wp2_with fail
       go_loop [5] (fun vn => WoIn digitB r 1 i s vn) (fun vn => s.size - (intOf vn).toNat)
       case atStart => exact ⟨1, Nat.le_refl _, by omega, rfl, by simp⟩
       case round =>
        obtain ⟨n, hn1, hn2, rfl, hall⟩ := hrel
        by_cases hin : i + n < s.size
        ·have hinL : (i : Int) + (n : Int) < (s.size : Int) := by omega
         have hg := Hget.out n hin
         have hL2 := isDigit_any (s[i + n]'hin) wo
         cases hlx : digitB (s[i + n]'hin) with
         | true =>
          have hall2 : (r.take (n + 1 - 1)).all digitB = true := by
           obtain ⟨m, rfl⟩ : ∃ m, n = m + 1 := ⟨n - 1, by omega⟩
           simp only [Nat.add_sub_cancel] at hall ⊢
           rw [List.getElem?_cons_succ] at hg
           rw [List.take_add_one, hg, List.all_append, hall]
           simp [hlx]
          have Hall := Lib.hid hall2
          rw [hlx] at hL2
          clear hall hall2 hg hlx
          go_wp2_with fail
          refine hL2.mono ?_
          rintro en w0 ⟨rfl, h0⟩
          obtain rfl := h0.symm
          clear h0
          go_wp2_with fail
          refine ⟨⟨n + 1, by omega, by omega, by go_num, Hall.out⟩, by simp [intOf]; omega⟩
         | false =>
          have hn : n = (tok (c :: r)).length := tok_hash' H35.out hn1 (by omega) hall (fun x hx => by
           rw [hg] at hx
           obtain rfl := Option.some.inj hx
           exact hlx)
          have Hn := Lib.hid hn
          rw [hlx] at hL2
          clear hall hg hlx hn
          go_wp2_with fail
          refine hL2.mono ?_
          rintro en w0 ⟨rfl, h0⟩
          obtain rfl := h0.symm
          clear h0
          have hx : s.extract i (i + n) = ⟨(tok (c :: r)).toArray⟩ := by
           have h1 : (s.extract i (i + n)).data.toList = tok (c :: r) := by
            rw [extract_list, Hdrop.out, Nat.add_sub_cancel_left, Hn.out]
            exact take_tok _
           rw [← h1]
          have hnx : (s.data.toList.drop (i + n)) = (c :: r).drop (tok (c :: r)).length := by rw [← List.drop_drop, Hdrop.out, Hn.out]
          have hst : wordsL s.size (c :: r) = (tok (c :: r), (i : Int)) :: wordsL s.size (skipW (s.data.toList.drop (i + n))) := by
           rw [words_cons s.size (by simp), hnx]
           have h2 : (s.size : Int) - ((c :: r).length : Int) = (i : Int) := by omega
           rw [h2]
           rfl
          have Hx := Lib.hid hx
          have Hst := Lib.hid hst
          clear hx hnx hst
          go_wp2_with (at_builtin; refine stop_here ?_)
          refine Stop.go ?_
          generalize hwA : World.alloc wo _ = wA
          have hcA : Chg NoB wo wA := by
           rw [← hwA]
           repeat (first | exact Chg.refl _ _ | apply Chg.alloc | apply Chg.drew)
          rw [Hx.out] at hwA
          have hbA : Blk wA (wo.heap.size) ([.string ⟨(tok (c :: r)).toArray⟩, .int .i64 (i : Int)]) 209 := by
           rw [← hwA]
           repeat (first | exact Blk.newAt (by first | rfl | (simp; done) | (simp; omega)) | apply Blk.alloc | apply Blk.drew)
          clear hwA
          have hoA := ho.keep hcA (fun _ h => h.elim) (fun _ _ => nbE)
          have hlm : (out.map wdDt).length = out.length := List.length_map ..
          refine wpList_own rfl (.tmp 62) (.tmp 71) 157 rfl w.heap.size 209 Tryz.underlying157 infoWord rfl (by decide) rfl hoA rfl [wdDt (tok (c :: r), (i : Int))] [.string ⟨(tok (c :: r)).toArray⟩, .int .i64 (i : Int)] rfl (ReadsC.single rfl (reads_wd _ _ _)) hbA.news (fun e => by cases e) ?_ ?_ ?_ ?_
          ·rw [hlm]; unfold maxLen; omega
          ·rw [hlm]; omega
          ·have := (hc.tr hcA).size; omega
          intro ao2 cap2 wB hoB hcB hatB
          rw [hlm] at hoB ⊢
          have hcV : Chg NoB w wB := (hc.tr hcA).trans hcB (fun x e => .inr (hoA.block x e).1)
          go_wp2_with fail
          refine ⟨⟨i + n, ao2, cap2, out ++ [(tok (c :: r), (i : Int))], by omega, by go_num, by rw [List.length_append]; rfl, hcV, by rw [List.map_append]; exact hoB, ?_, by rw [List.length_append, List.length_singleton]; omega⟩, by simp [intOf]; omega⟩
          rw [← Heq.out, Hsk.out, Hst.out, List.append_assoc]
          rfl
        ·have hn : n = (tok (c :: r)).length := tok_hash' H35.out hn1 (by omega) hall (fun x hx => by
          have := (List.getElem?_eq_some_iff.1 hx).1
          omega)
         have Hn := Lib.hid hn
         have hinL : ¬ (i : Int) + (n : Int) < (s.size : Int) := by omega
         clear hall hn
         have hx : s.extract i (i + n) = ⟨(tok (c :: r)).toArray⟩ := by
          have h1 : (s.extract i (i + n)).data.toList = tok (c :: r) := by
           rw [extract_list, Hdrop.out, Nat.add_sub_cancel_left, Hn.out]
           exact take_tok _
          rw [← h1]
         have hnx : (s.data.toList.drop (i + n)) = (c :: r).drop (tok (c :: r)).length := by rw [← List.drop_drop, Hdrop.out, Hn.out]
         have hst : wordsL s.size (c :: r) = (tok (c :: r), (i : Int)) :: wordsL s.size (skipW (s.data.toList.drop (i + n))) := by
          rw [words_cons s.size (by simp), hnx]
          have h2 : (s.size : Int) - ((c :: r).length : Int) = (i : Int) := by omega
          rw [h2]
          rfl
         have Hx := Lib.hid hx
         have Hst := Lib.hid hst
         clear hx hnx hst
         go_wp2_with (at_builtin; refine stop_here ?_)
         refine Stop.go ?_
         generalize hwA : World.alloc wo _ = wA
         have hcA : Chg NoB wo wA := by
          rw [← hwA]
          repeat (first | exact Chg.refl _ _ | apply Chg.alloc | apply Chg.drew)
         rw [Hx.out] at hwA
         have hbA : Blk wA (wo.heap.size) ([.string ⟨(tok (c :: r)).toArray⟩, .int .i64 (i : Int)]) 209 := by
          rw [← hwA]
          repeat (first | exact Blk.newAt (by first | rfl | (simp; done) | (simp; omega)) | apply Blk.alloc | apply Blk.drew)
         clear hwA
         have hoA := ho.keep hcA (fun _ h => h.elim) (fun _ _ => nbE)
         have hlm : (out.map wdDt).length = out.length := List.length_map ..
         refine wpList_own rfl (.tmp 62) (.tmp 71) 157 rfl w.heap.size 209 Tryz.underlying157 infoWord rfl (by decide) rfl hoA rfl [wdDt (tok (c :: r), (i : Int))] [.string ⟨(tok (c :: r)).toArray⟩, .int .i64 (i : Int)] rfl (ReadsC.single rfl (reads_wd _ _ _)) hbA.news (fun e => by cases e) ?_ ?_ ?_ ?_
         ·rw [hlm]; unfold maxLen; omega
         ·rw [hlm]; omega
         ·have := (hc.tr hcA).size; omega
         intro ao2 cap2 wB hoB hcB hatB
         rw [hlm] at hoB ⊢
         have hcV : Chg NoB w wB := (hc.tr hcA).trans hcB (fun x e => .inr (hoA.block x e).1)
         go_wp2_with fail
         refine ⟨⟨i + n, ao2, cap2, out ++ [(tok (c :: r), (i : Int))], by omega, by go_num, by rw [List.length_append]; rfl, hcV, by rw [List.map_append]; exact hoB, ?_, by rw [List.length_append, List.length_singleton]; omega⟩, by simp [intOf]; omega⟩
         rw [← Heq.out, Hsk.out, Hst.out, List.append_assoc]
         rfl
      ·have h35' : ¬ (c.toNat : Int) = 35 := by omega
       have Hn := Lib.hid (tok_single (r := r) Hl.out h35)
       clear h35
       have hx : s.extract i (i + 1) = ⟨(tok (c :: r)).toArray⟩ := by
        have h1 : (s.extract i (i + 1)).data.toList = tok (c :: r) := by
         rw [extract_list, Hdrop.out, Nat.add_sub_cancel_left, Hn.out]
         exact take_tok _
        rw [← h1]
       have hnx : (s.data.toList.drop (i + 1)) = (c :: r).drop (tok (c :: r)).length := by rw [← List.drop_drop, Hdrop.out, Hn.out]
       have hst : wordsL s.size (c :: r) = (tok (c :: r), (i : Int)) :: wordsL s.size (skipW (s.data.toList.drop (i + 1))) := by
        rw [words_cons s.size (by simp), hnx]
        have h2 : (s.size : Int) - ((c :: r).length : Int) = (i : Int) := by omega
        rw [h2]
        rfl
       have Hx := Lib.hid hx
       have Hst := Lib.hid hst
       clear hx hnx hst
       go_wp2_with (at_builtin; refine stop_here ?_)
       refine Stop.go ?_
       generalize hwA : World.alloc wo _ = wA
       have hcA : Chg NoB wo wA := by
        rw [← hwA]
        repeat (first | exact Chg.refl _ _ | apply Chg.alloc | apply Chg.drew)
       rw [Hx.out] at hwA
       have hbA : Blk wA (wo.heap.size) ([.string ⟨(tok (c :: r)).toArray⟩, .int .i64 (i : Int)]) 209 := by
        rw [← hwA]
        repeat (first | exact Blk.newAt (by first | rfl | (simp; done) | (simp; omega)) | apply Blk.alloc | apply Blk.drew)
       clear hwA
       have hoA := ho.keep hcA (fun _ h => h.elim) (fun _ _ => nbE)
       have hlm : (out.map wdDt).length = out.length := List.length_map ..
       refine wpList_own rfl (.tmp 62) (.tmp 71) 157 rfl w.heap.size 209 Tryz.underlying157 infoWord rfl (by decide) rfl hoA rfl [wdDt (tok (c :: r), (i : Int))] [.string ⟨(tok (c :: r)).toArray⟩, .int .i64 (i : Int)] rfl (ReadsC.single rfl (reads_wd _ _ _)) hbA.news (fun e => by cases e) ?_ ?_ ?_ ?_
       ·rw [hlm]; unfold maxLen; omega
       ·rw [hlm]; omega
       ·have := (hc.tr hcA).size; omega
       intro ao2 cap2 wB hoB hcB hatB
       rw [hlm] at hoB ⊢
       have hcV : Chg NoB w wB := (hc.tr hcA).trans hcB (fun x e => .inr (hoA.block x e).1)
       go_wp2_with fail
       refine ⟨⟨i + 1, ao2, cap2, out ++ [(tok (c :: r), (i : Int))], by omega, by go_num, by rw [List.length_append]; rfl, hcV, by rw [List.map_append]; exact hoB, ?_, by rw [List.length_append, List.length_singleton]; omega⟩, by simp [intOf]; omega⟩
       rw [← Heq.out, Hsk.out, Hst.out, List.append_assoc]
       rfl
  ·have hie : i = s.size := by omega
   have hfin : wordsL s.size (skipW s.data.toList) = out ++ [([], (s.size : Int))] := by
    rw [← Heq.out, List.drop_eq_nil_of_le (by omega)]
    rw [show skipW [] = [] from rfl, words_nil]
   have Hfin := Lib.hid hfin
   have hiL : ¬ (i : Int) < (s.size : Int) := by omega
   clear hfin
   go_wp2_with (at_builtin; refine stop_here ?_)
   refine Stop.go ?_
   generalize hwA : World.alloc wo _ = wA
   have hcA : Chg NoB wo wA := by
    rw [← hwA]
    repeat (first | exact Chg.refl _ _ | apply Chg.alloc | apply Chg.drew)
   have hbA : Blk wA (wo.heap.size) ([.string ⟨#[]⟩, .int .i64 (s.size : Int)]) 209 := by
    rw [← hwA]
    repeat (first | exact Blk.newAt (by first | rfl | (simp; done) | (simp; omega)) | apply Blk.alloc | apply Blk.drew)
   clear hwA
   have hoA := ho.keep hcA (fun _ h => h.elim) (fun _ _ => nbE)
   have hlm : (out.map wdDt).length = out.length := List.length_map ..
   refine wpList_own rfl (.tmp 76) (.tmp 80) 157 rfl w.heap.size 209 Tryz.underlying157 infoWord rfl (by decide) rfl hoA rfl [wdDt ([], (s.size : Int))] [.string ⟨#[]⟩, .int .i64 (s.size : Int)] rfl (ReadsC.single rfl (reads_wd _ _ _)) hbA.news (fun e => by cases e) ?_ ?_ ?_ ?_
   ·rw [hlm]; unfold maxLen; omega
   ·rw [hlm]; omega
   ·have := (hc.tr hcA).size; omega
   intro ao2 cap2 wB hoB hcB hatB
   rw [hlm] at hoB ⊢
   have hcV : Chg NoB w wB := (hc.tr hcA).trans hcB (fun x e => .inr (hoA.block x e).1)
   go_wp2_with fail
   go_ret
   rw [Hfin.out, List.map_append]
   refine ⟨ao2, cap2, ?_, ?_, hcV⟩
   ·simp
   ·have h9 := hoB.reads (S' := fun x => False ∨ w.heap.size ≤ x) (fun _ h => h.elim) (fun x hx _ => .inr hx) (by simp only [List.length_append, List.length_map, List.length_singleton]; unfold maxLen; omega)
    simpa using h9
end Go.Proofs.YtkchmgjmecojcaaGreatDoor
