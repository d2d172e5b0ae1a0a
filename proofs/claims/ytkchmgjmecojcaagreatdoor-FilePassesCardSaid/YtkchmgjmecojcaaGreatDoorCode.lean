/-
  plain.Code: an error's number and place.
-/
import Derived.Test.YtkchmgjmecojcaaGreatDoorErrAs2
set_option linter.unusedVariables false
set_option maxHeartbeats 20000000
set_option maxRecDepth 100000
set_option linter.unusedSimpArgs false
namespace Go.Proofs.YtkchmgjmecojcaaGreatDoor
open Go.RowKit
def sg : List Nat := [1, 0, 2, 3, 4, 5, 6, 7]
def sv (a : Addr) : Value := .iface 298 (.pointer (some a))
structure Sents (w : World) (A : Nat → Addr) : Prop where
 cell : ∀ i g, sg[i]? = some g → w.cell? ⟨g, 0, none⟩ = some (sv (A i))
 row : ∀ i, i < 8 → ∃ c t, w.heap[(A i).block]? = some (.cells c t (0, 0))
 ne : ∀ i j, i < 8 → j < 8 → i ≠ j → A i ≠ A j
 ty : w.cell? ⟨10, 0, none⟩ = some (.iface 213 (.agg #[.pointer (some ⟨19, 24, none⟩)]))
theorem Sents.keep0 {w w' : World} {A : Nat → Addr} (h : Sents w A) (hc : Chg NoB w w') : Sents w' A where
 cell := fun i g hg => (hc.cell (lt_of_block' (h.cell i g hg)) nbE).trans (h.cell i g hg)
 row := fun i hi => by
  obtain ⟨c, t, hr⟩ := h.row i hi
  exact ⟨c, t, hc.at hr nbE⟩
 ne := h.ne
 ty := (hc.cell (lt_of_block' h.ty) nbE).trans h.ty
inductive Told (w : World) (A : Nat → Addr) : Value → Int → Int → Prop
 | nil : Told w A .nilIface 0 (-1)
 | sent (i : Nat) (hi : i < 8) : Told w A (sv (A i)) ((i : Int) + 1) (-1)
 | fault (p i : Nat) (at' : Int) (hi : i < 8) (h0 : w.cell? ⟨p, 0, none⟩ = some (.int .i64 at')) (h1 : w.cell? ⟨p, 1, none⟩ = some (sv (A i))) (hb : -9223372036854775808 ≤ at' ∧ at' ≤ 9223372036854775807) :
  Told w A (.iface 105 (.pointer (some ⟨p, 0, none⟩))) ((i : Int) + 1) at'
def RetCode (n at' : Int) (w : World) (en : Ending) (w' : World) : Prop := en = .returned (.tuple #[.int .i64 n, .int .i64 at']) ∧ Chg NoB w w'
def IsAt (A : Nat → Addr) (v : Value) (i : Nat) (w : World) : Prop := ∀ j w', j < 8 → Chg NoB w w' → Calls Tryz.prog 44 #[v, sv (A j)] w' fun e w'' => e = .returned (.bool (decide (j = i))) ∧ w'' = w'
theorem isAt_sent {w : World} {A : Nat → Addr} (h : Sents w A) {i : Nat} (hi : i < 8) : IsAt A (sv (A i)) i w := fun j w' hj hc => by
 by_cases hji : j = i
 ·subst hji
  simp only [decide_true]
  exact is_same (A j) w'
 ·simp only [hji, decide_false]
  obtain ⟨c, t, hr⟩ := (h.keep0 hc).row i hi
  obtain ⟨c2, t2, hr2⟩ := (h.keep0 hc).row j hj
  exact is_other (A i) (A j) c c2 t t2 w' (h.ne i j hi hj (fun e => hji e.symm)) hr hr2
theorem isAt_fault {w : World} {A : Nat → Addr} (h : Sents w A) {i p : Nat} (hi : i < 8) (h1 : w.cell? ⟨p, 1, none⟩ = some (sv (A i))) : IsAt A (.iface 105 (.pointer (some ⟨p, 0, none⟩))) i w := fun j w' hj hc => by
 have h1' : w'.cell? ⟨p, 1, none⟩ = some (sv (A i)) := (hc.cell (lt_of_block' h1) nbE).trans h1
 by_cases hji : j = i
 ·subst hji
  simp only [decide_true]
  exact is_fault_same p (A j) w' h1'
 ·simp only [hji, decide_false]
  obtain ⟨c, t, hr⟩ := (h.keep0 hc).row i hi
  obtain ⟨c2, t2, hr2⟩ := (h.keep0 hc).row j hj
  exact is_fault_other p (A j) (A i) c c2 t t2 w' h1' (h.ne i j hi hj (fun e => hji e.symm)) hr hr2
def codeArr (A : Nat → Addr) : List Value := [.iface 298 (.pointer (some (A 0))), .iface 298 (.pointer (some (A 1))), .iface 298 (.pointer (some (A 2))), .iface 298 (.pointer (some (A 3))), .iface 298 (.pointer (some (A 4))), .iface 298 (.pointer (some (A 5))), .iface 298 (.pointer (some (A 6))), .iface 298 (.pointer (some (A 7)))]
theorem codeArr_get (A : Nat → Addr) : ∀ {j : Nat}, j < 8 → (codeArr A)[j]? = some (sv (A j))
 | 0, _ => rfl
 | 1, _ => rfl
 | 2, _ => rfl
 | 3, _ => rfl
 | 4, _ => rfl
 | 5, _ => rfl
 | 6, _ => rfl
 | 7, _ => rfl
 | j + 8, h => by omega
def CodeRel (w : World) (A : Nat → Addr) (arr i : Nat) (t : Int) (va vi : Value) (wr : World) : Prop :=
 ∃ j : Nat, j ≤ i ∧ va = .int .i64 t ∧ vi = .int .i64 (j : Nat) ∧ Chg NoB w wr ∧ Blk wr arr (codeArr A) 24
theorem code_any (v : Value) (n at' : Int) (w : World) (A : Nat → Addr) (hS : Sents w A) (ht : Told w A v n at') :
  Calls Tryz.prog 16 #[v] w (RetCode n at' w) := by
 cases ht with
 | nil =>
  go_enter Tryz.func16, Tryz.ntmps16
  go_wp2_with fail
  exact bodyPost_ret (v := .tuple #[.int .i64 0, .int .i64 (-1)]) (by simp [results, Tryz.results16, go_sem]) rfl ⟨rfl, Chg.refl _ _⟩
 | sent i hi =>
  have hIs := isAt_sent hS hi
  go_enter Tryz.func16, Tryz.ntmps16
  unfold sv
  go_wp2_with fail
  generalize hw1 : w.alloc _ = w1
  have hc1 : Chg NoB w w1 := by
   rw [← hw1]
   repeat (first | exact Chg.refl _ _ | apply Chg.alloc | apply Chg.drew)
  clear hw1
  refine (as_miss _ _ w1 (hS.keep0 hc1).ty).mono ?_
  rintro en w2 ⟨rfl, hc2⟩
  replace hc2 := hc1.tr hc2
  have hS2 := hS.keep0 hc2
  have g0 := hS2.cell 0 _ rfl
  have g1 := hS2.cell 1 _ rfl
  have g2 := hS2.cell 2 _ rfl
  have g3 := hS2.cell 3 _ rfl
  have g4 := hS2.cell 4 _ rfl
  have g5 := hS2.cell 5 _ rfl
  have g6 := hS2.cell 6 _ rfl
  have g7 := hS2.cell 7 _ rfl
  unfold sv at g0 g1 g2 g3 g4 g5 g6 g7
  go_wp2_with fail
  generalize hwA : World.alloc _ _ = wA
  have hcA : Chg NoB w2 wA := by
   rw [← hwA]
   repeat (first | exact Chg.refl _ _ | apply Chg.alloc | apply Chg.drew)
  have hbA : Blk wA (w2.heap.size) (codeArr A) 24 := by
   rw [← hwA]
   repeat (first | exact Blk.newAt (by first | rfl | (simp; done) | (simp; omega)) | apply Blk.alloc | apply Blk.drew)
  clear hwA g0 g1 g2 g3 g4 g5 g6 g7
  have hcA0 := hc2.tr hcA
  go_loopw [3, 26] (fun va vi wr => CodeRel w A w2.heap.size i (-1) va vi wr) (fun _ vi _ => 8 - (intOf vi).toNat)
  case atStart => exact ⟨0, Nat.zero_le _, rfl, rfl, hcA0, hbA⟩
  case round =>
   obtain ⟨j, hj, rfl, rfl, hcr, hbr⟩ := hrel
   have hj8 : j < 8 := by omega
   have ej : wr.cell? ⟨w2.heap.size, j, none⟩ = some (sv (A j)) := (hbr.cell j).trans (codeArr_get A hj8)
   unfold sv at ej
   have hIj := hIs j
   by_cases hji : j = i
   ·subst hji
    go_wp2_with fail
    refine (hIj _ hj8 hcr).mono ?_
    rintro en w5 ⟨rfl, rfl⟩
    simp only [decide_true]
    clear hIj
    go_wp2_with fail
    exact bodyPost_ret (v := .tuple #[.int .i64 ((j : Int) + 1), .int .i64 (-1)]) (by simp [results, Tryz.results16, go_sem]) rfl ⟨rfl, hcr⟩
   ·go_wp2_with fail
    refine (hIj _ hj8 hcr).mono ?_
    rintro en w5 ⟨rfl, rfl⟩
    simp only [hji, decide_false]
    clear hIj
    go_wp2_with fail
    go_roundw
    case rel => exact ⟨j + 1, by omega, rfl, by go_num, hcr, hbr⟩
    case measure => simp [intOf]; omega
 | fault p i _ hi h0 h1 hb =>
  have hIs := isAt_fault hS hi h1
  go_enter Tryz.func16, Tryz.ntmps16
  go_wp2_with fail
  generalize hw1 : w.alloc _ = w1
  have hc1 : Chg NoB w w1 := by
   rw [← hw1]
   repeat (first | exact Chg.refl _ _ | apply Chg.alloc | apply Chg.drew)
  have hf1 : Blk w1 (w.heap.size) ([.pointer none]) 105 := by
   rw [← hw1]
   repeat (first | exact Blk.newAt (by first | rfl | (simp; done) | (simp; omega)) | apply Blk.alloc | apply Blk.drew)
  clear hw1
  have hlp := lt_of_block' h0
  simp only at hlp
  refine (as_hit ⟨p, 0, none⟩ ⟨w.heap.size, 0, none⟩ (.pointer none) w1 (hS.keep0 hc1).ty (hf1.cell 0) (hf1.free 0)).mono ?_
  rintro en w2 ⟨rfl, hw2⟩
  have hc2 : Chg NoB w w2 := by
   rw [hw2]
   unfold asW
   exact ((((hc1.alloc _).alloc _).alloc _).alloc _).setCell (.inr (Nat.le_refl _)) _
  have hf2 : Blk w2 w.heap.size [.pointer (some ⟨p, 0, none⟩)] 105 := by
   rw [hw2]
   unfold asW
   exact ((((hf1.alloc _).alloc _).alloc _).alloc _).set 0 _
  clear hw2
  have hS2 := hS.keep0 hc2
  have q0 : w2.cell? ⟨w.heap.size, 0, none⟩ = some (.pointer (some ⟨p, 0, none⟩)) := hf2.cell 0
  have q1 : w2.cell? ⟨p, 0, none⟩ = some (.int .i64 at') := (hc2.cell (p := ⟨p, 0, none⟩) hlp nbE).trans h0
  have g0 := hS2.cell 0 _ rfl
  have g1 := hS2.cell 1 _ rfl
  have g2 := hS2.cell 2 _ rfl
  have g3 := hS2.cell 3 _ rfl
  have g4 := hS2.cell 4 _ rfl
  have g5 := hS2.cell 5 _ rfl
  have g6 := hS2.cell 6 _ rfl
  have g7 := hS2.cell 7 _ rfl
  unfold sv at g0 g1 g2 g3 g4 g5 g6 g7
  go_wp2_with fail
  generalize hwA : World.alloc _ _ = wA
  have hcA : Chg NoB w2 wA := by
   rw [← hwA]
   repeat (first | exact Chg.refl _ _ | apply Chg.alloc | apply Chg.drew)
  have hbA : Blk wA (w2.heap.size) (codeArr A) 24 := by
   rw [← hwA]
   repeat (first | exact Blk.newAt (by first | rfl | (simp; done) | (simp; omega)) | apply Blk.alloc | apply Blk.drew)
  clear hwA g0 g1 g2 g3 g4 g5 g6 g7
  have hcA0 := hc2.tr hcA
  go_loopw [3, 26] (fun va vi wr => CodeRel w A w2.heap.size i (at') va vi wr) (fun _ vi _ => 8 - (intOf vi).toNat)
  case atStart => exact ⟨0, Nat.zero_le _, rfl, rfl, hcA0, hbA⟩
  case round =>
   obtain ⟨j, hj, rfl, rfl, hcr, hbr⟩ := hrel
   have hj8 : j < 8 := by omega
   have ej : wr.cell? ⟨w2.heap.size, j, none⟩ = some (sv (A j)) := (hbr.cell j).trans (codeArr_get A hj8)
   unfold sv at ej
   have hIj := hIs j
   by_cases hji : j = i
   ·subst hji
    go_wp2_with fail
    refine (hIj _ hj8 hcr).mono ?_
    rintro en w5 ⟨rfl, rfl⟩
    simp only [decide_true]
    clear hIj
    go_wp2_with fail
    exact bodyPost_ret (v := .tuple #[.int .i64 ((j : Int) + 1), .int .i64 (at')]) (by simp [results, Tryz.results16, go_sem]) rfl ⟨rfl, hcr⟩
   ·go_wp2_with fail
    refine (hIj _ hj8 hcr).mono ?_
    rintro en w5 ⟨rfl, rfl⟩
    simp only [hji, decide_false]
    clear hIj
    go_wp2_with fail
    go_roundw
    case rel => exact ⟨j + 1, by omega, rfl, by go_num, hcr, hbr⟩
    case measure => simp [intOf]; omega
end Go.Proofs.YtkchmgjmecojcaaGreatDoor
