/-
  plain.Code: an error's number and place.; evolve.plain: NODE, as P130 has it, of a schema's text.
-/
import Derived.Test.YtnmhkafpgohefaaGreatDoorErrAs2
import Derived.Test.YtnmhkafpgohefaaGreatDoorNumbered
set_option linter.unusedVariables false
set_option maxHeartbeats 20000000
set_option maxRecDepth 100000
set_option linter.unusedSimpArgs false
namespace Go.Proofs.YtnmhkafpgohefaaGreatDoor
open Go.RowKit
def sg : List Nat := [2, 0, 5, 6, 3, 1, 7, 4]
def sv (a : Addr) : Value := .iface 272 (.pointer (some a))
structure Sents (w : World) (A : Nat → Addr) : Prop where
 cell : ∀ i g, sg[i]? = some g → w.cell? ⟨g, 0, none⟩ = some (sv (A i))
 row : ∀ i, i < 8 → ∃ c t, w.heap[(A i).block]? = some (.cells c t (0, 0))
 ne : ∀ i j, i < 8 → j < 8 → i ≠ j → A i ≠ A j
 ty : w.cell? ⟨9, 0, none⟩ = some (.iface 187 (.agg #[.pointer (some ⟨22, 25, none⟩)]))
theorem Sents.keep0 {w w' : World} {A : Nat → Addr} (h : Sents w A) (hc : Chg NoB w w') : Sents w' A where
 cell := fun i g hg => (hc.cell (lt_of_block' (h.cell i g hg)) nbE).trans (h.cell i g hg)
 row := fun i hi => by
  obtain ⟨c, t, hr⟩ := h.row i hi
  exact ⟨c, t, hc.at hr nbE⟩
 ne := h.ne
 ty := (hc.cell (lt_of_block' h.ty) nbE).trans h.ty
inductive Told (w : World) (A : Nat → Addr) : Value → Int → Int → Prop
 | nil : Told w A .nilIface 0 (-1)
 | sent (i : Nat) (hi : i < 8) : Told w A (sv (A i)) ((i : Int) + 1) (-1)
 | fault (p i : Nat) (at' : Int) (hi : i < 8) (h0 : w.cell? ⟨p, 0, none⟩ = some (.int .i64 at')) (h1 : w.cell? ⟨p, 1, none⟩ = some (sv (A i))) (hb : -9223372036854775808 ≤ at' ∧ at' ≤ 9223372036854775807) :
  Told w A (.iface 84 (.pointer (some ⟨p, 0, none⟩))) ((i : Int) + 1) at'
def RetCode (n at' : Int) (w : World) (en : Ending) (w' : World) : Prop := en = .returned (.tuple #[.int .i64 n, .int .i64 at']) ∧ Chg NoB w w'
def IsAt (A : Nat → Addr) (v : Value) (i : Nat) (w : World) : Prop := ∀ j w', j < 8 → Chg NoB w w' → Calls Tryz.prog 35 #[v, sv (A j)] w' fun e w'' => e = .returned (.bool (decide (j = i))) ∧ w'' = w'
theorem isAt_sent {w : World} {A : Nat → Addr} (h : Sents w A) {i : Nat} (hi : i < 8) : IsAt A (sv (A i)) i w := fun j w' hj hc => by
 by_cases hji : j = i
 ·subst hji
  simp only [decide_true]
  exact is_same (A j) w'
 ·simp only [hji, decide_false]
  obtain ⟨c, t, hr⟩ := (h.keep0 hc).row i hi
  obtain ⟨c2, t2, hr2⟩ := (h.keep0 hc).row j hj
  exact is_other (A i) (A j) c c2 t t2 w' (h.ne i j hi hj (fun e => hji e.symm)) hr hr2
theorem isAt_fault {w : World} {A : Nat → Addr} (h : Sents w A) {i p : Nat} (hi : i < 8) (h1 : w.cell? ⟨p, 1, none⟩ = some (sv (A i))) : IsAt A (.iface 84 (.pointer (some ⟨p, 0, none⟩))) i w := fun j w' hj hc => by
 have h1' : w'.cell? ⟨p, 1, none⟩ = some (sv (A i)) := (hc.cell (lt_of_block' h1) nbE).trans h1
 by_cases hji : j = i
 ·subst hji
  simp only [decide_true]
  exact is_fault_same p (A j) w' h1'
 ·simp only [hji, decide_false]
  obtain ⟨c, t, hr⟩ := (h.keep0 hc).row i hi
  obtain ⟨c2, t2, hr2⟩ := (h.keep0 hc).row j hj
  exact is_fault_other p (A j) (A i) c c2 t t2 w' h1' (h.ne i j hi hj (fun e => hji e.symm)) hr hr2
def codeArr (A : Nat → Addr) : List Value := [.iface 272 (.pointer (some (A 0))), .iface 272 (.pointer (some (A 1))), .iface 272 (.pointer (some (A 2))), .iface 272 (.pointer (some (A 3))), .iface 272 (.pointer (some (A 4))), .iface 272 (.pointer (some (A 5))), .iface 272 (.pointer (some (A 6))), .iface 272 (.pointer (some (A 7)))]
theorem codeArr_get (A : Nat → Addr) : ∀ {j : Nat}, j < 8 → (codeArr A)[j]? = some (sv (A j))
 | 0, _ => rfl
 | 1, _ => rfl
 | 2, _ => rfl
 | 3, _ => rfl
 | 4, _ => rfl
 | 5, _ => rfl
 | 6, _ => rfl
 | 7, _ => rfl
 | j + 8, h => by omega
def CodeRel (w : World) (A : Nat → Addr) (arr i : Nat) (t : Int) (va vi : Value) (wr : World) : Prop :=
 ∃ j : Nat, j ≤ i ∧ va = .int .i64 t ∧ vi = .int .i64 (j : Nat) ∧ Chg NoB w wr ∧ Blk wr arr (codeArr A) 25
theorem code_any (v : Value) (n at' : Int) (w : World) (A : Nat → Addr) (hS : Sents w A) (ht : Told w A v n at') :
  Calls Tryz.prog 18 #[v] w (RetCode n at' w) := by
 cases ht with
 | nil =>
  go_enter Tryz.func18, Tryz.ntmps18
  go_wp2_with fail
  exact bodyPost_ret (v := .tuple #[.int .i64 0, .int .i64 (-1)]) (by simp [results, Tryz.results18, go_sem]) rfl ⟨rfl, Chg.refl _ _⟩
 | sent i hi =>
  have hIs := isAt_sent hS hi
  go_enter Tryz.func18, Tryz.ntmps18
  unfold sv
  go_wp2_with fail
  generalize hw1 : w.alloc _ = w1
  have hc1 : Chg NoB w w1 := by
   rw [← hw1]
   repeat (first | exact Chg.refl _ _ | apply Chg.alloc | apply Chg.drew)
  clear hw1
  refine (as_miss _ _ w1 (hS.keep0 hc1).ty).mono ?_
  rintro en w2 ⟨rfl, hc2⟩
  replace hc2 := hc1.tr hc2
  have hS2 := hS.keep0 hc2
  have g0 := hS2.cell 0 _ rfl
  have g1 := hS2.cell 1 _ rfl
  have g2 := hS2.cell 2 _ rfl
  have g3 := hS2.cell 3 _ rfl
  have g4 := hS2.cell 4 _ rfl
  have g5 := hS2.cell 5 _ rfl
  have g6 := hS2.cell 6 _ rfl
  have g7 := hS2.cell 7 _ rfl
  unfold sv at g0 g1 g2 g3 g4 g5 g6 g7
  go_wp2_with fail
  generalize hwA : World.alloc _ _ = wA
  have hcA : Chg NoB w2 wA := by
   rw [← hwA]
   repeat (first | exact Chg.refl _ _ | apply Chg.alloc | apply Chg.drew)
  have hbA : Blk wA (w2.heap.size) (codeArr A) 25 := by
   rw [← hwA]
   repeat (first | exact Blk.newAt (by first | rfl | (simp; done) | (simp; omega)) | apply Blk.alloc | apply Blk.drew)
  clear hwA g0 g1 g2 g3 g4 g5 g6 g7
  have hcA0 := hc2.tr hcA
  go_loopw [3, 26] (fun va vi wr => CodeRel w A w2.heap.size i (-1) va vi wr) (fun _ vi _ => 8 - (intOf vi).toNat)
  case atStart => exact ⟨0, Nat.zero_le _, rfl, rfl, hcA0, hbA⟩
  case round =>
   obtain ⟨j, hj, rfl, rfl, hcr, hbr⟩ := hrel
   have hj8 : j < 8 := by omega
   have ej : wr.cell? ⟨w2.heap.size, j, none⟩ = some (sv (A j)) := (hbr.cell j).trans (codeArr_get A hj8)
   unfold sv at ej
   have hIj := hIs j
   by_cases hji : j = i
   ·subst hji
    go_wp2_with fail
    refine (hIj _ hj8 hcr).mono ?_
    rintro en w5 ⟨rfl, rfl⟩
    simp only [decide_true]
    clear hIj
    go_wp2_with fail
    exact bodyPost_ret (v := .tuple #[.int .i64 ((j : Int) + 1), .int .i64 (-1)]) (by simp [results, Tryz.results18, go_sem]) rfl ⟨rfl, hcr⟩
   ·go_wp2_with fail
    refine (hIj _ hj8 hcr).mono ?_
    rintro en w5 ⟨rfl, rfl⟩
    simp only [hji, decide_false]
    clear hIj
    go_wp2_with fail
    go_roundw
    case rel => exact ⟨j + 1, by omega, rfl, by go_num, hcr, hbr⟩
    case measure => simp [intOf]; omega
 | fault p i _ hi h0 h1 hb =>
  have hIs := isAt_fault hS hi h1
  go_enter Tryz.func18, Tryz.ntmps18
  go_wp2_with fail
  generalize hw1 : w.alloc _ = w1
  have hc1 : Chg NoB w w1 := by
   rw [← hw1]
   repeat (first | exact Chg.refl _ _ | apply Chg.alloc | apply Chg.drew)
  have hf1 : Blk w1 (w.heap.size) ([.pointer none]) 84 := by
   rw [← hw1]
   repeat (first | exact Blk.newAt (by first | rfl | (simp; done) | (simp; omega)) | apply Blk.alloc | apply Blk.drew)
  clear hw1
  have hlp := lt_of_block' h0
  simp only at hlp
  refine (as_hit ⟨p, 0, none⟩ ⟨w.heap.size, 0, none⟩ (.pointer none) w1 (hS.keep0 hc1).ty (hf1.cell 0) (hf1.free 0)).mono ?_
  rintro en w2 ⟨rfl, hw2⟩
  have hc2 : Chg NoB w w2 := by
   rw [hw2]
   unfold asW
   exact ((((hc1.alloc _).alloc _).alloc _).alloc _).setCell (.inr (Nat.le_refl _)) _
  have hf2 : Blk w2 w.heap.size [.pointer (some ⟨p, 0, none⟩)] 84 := by
   rw [hw2]
   unfold asW
   exact ((((hf1.alloc _).alloc _).alloc _).alloc _).set 0 _
  clear hw2
  have hS2 := hS.keep0 hc2
  have q0 : w2.cell? ⟨w.heap.size, 0, none⟩ = some (.pointer (some ⟨p, 0, none⟩)) := hf2.cell 0
  have q1 : w2.cell? ⟨p, 0, none⟩ = some (.int .i64 at') := (hc2.cell (p := ⟨p, 0, none⟩) hlp nbE).trans h0
  have g0 := hS2.cell 0 _ rfl
  have g1 := hS2.cell 1 _ rfl
  have g2 := hS2.cell 2 _ rfl
  have g3 := hS2.cell 3 _ rfl
  have g4 := hS2.cell 4 _ rfl
  have g5 := hS2.cell 5 _ rfl
  have g6 := hS2.cell 6 _ rfl
  have g7 := hS2.cell 7 _ rfl
  unfold sv at g0 g1 g2 g3 g4 g5 g6 g7
  go_wp2_with fail
  generalize hwA : World.alloc _ _ = wA
  have hcA : Chg NoB w2 wA := by
   rw [← hwA]
   repeat (first | exact Chg.refl _ _ | apply Chg.alloc | apply Chg.drew)
  have hbA : Blk wA (w2.heap.size) (codeArr A) 25 := by
   rw [← hwA]
   repeat (first | exact Blk.newAt (by first | rfl | (simp; done) | (simp; omega)) | apply Blk.alloc | apply Blk.drew)
  clear hwA g0 g1 g2 g3 g4 g5 g6 g7
  have hcA0 := hc2.tr hcA
  go_loopw [3, 26] (fun va vi wr => CodeRel w A w2.heap.size i (at') va vi wr) (fun _ vi _ => 8 - (intOf vi).toNat)
  case atStart => exact ⟨0, Nat.zero_le _, rfl, rfl, hcA0, hbA⟩
  case round =>
   obtain ⟨j, hj, rfl, rfl, hcr, hbr⟩ := hrel
   have hj8 : j < 8 := by omega
   have ej : wr.cell? ⟨w2.heap.size, j, none⟩ = some (sv (A j)) := (hbr.cell j).trans (codeArr_get A hj8)
   unfold sv at ej
   have hIj := hIs j
   by_cases hji : j = i
   ·subst hji
    go_wp2_with fail
    refine (hIj _ hj8 hcr).mono ?_
    rintro en w5 ⟨rfl, rfl⟩
    simp only [decide_true]
    clear hIj
    go_wp2_with fail
    exact bodyPost_ret (v := .tuple #[.int .i64 ((j : Int) + 1), .int .i64 (at')]) (by simp [results, Tryz.results18, go_sem]) rfl ⟨rfl, hcr⟩
   ·go_wp2_with fail
    refine (hIj _ hj8 hcr).mono ?_
    rintro en w5 ⟨rfl, rfl⟩
    simp only [hji, decide_false]
    clear hIj
    go_wp2_with fail
    go_roundw
    case rel => exact ⟨j + 1, by omega, rfl, by go_num, hcr, hbr⟩
    case measure => simp [intOf]; omega
theorem strs_chunks (w : World) (S : Nat → Prop) : ∀ l : List ByteArray, ReadsC w S 1 (l.map strDt) (l.map Value.string)
 | [] => rfl
 | x :: xs => ⟨[.string x], xs.map Value.string, rfl, rfl, reads_str w S x, strs_chunks w S xs⟩
theorem strs_news {w : World} {S : Nat → Prop} : ∀ {l : List ByteArray} {xs : List Value}, ReadsC w S 1 (l.map strDt) xs → xs = l.map Value.string
 | [], xs, h => h
 | x :: r, xs, h => by
  obtain ⟨c, q, rfl, _, ⟨rfl, _⟩, h2⟩ := h
  rw [strs_news h2]
  rfl
theorem own_str {w : World} {B : Nat} {v : Value} {l : List ByteArray} (h : Own w B 9 1 (fun _ => False) v (l.map strDt)) {i : Nat} (hi : i < l.length) :
  ∃ g cap, v = .slice (some ⟨g, 0, none⟩) l.length cap ∧ B ≤ g ∧ g < w.heap.size ∧ w.cell? ⟨g, i, none⟩ = some (.string l[i]) ∧ w.frozen? ⟨g, i, none⟩ = false ∧ ∀ y : ByteArray, Own (w.setCell ⟨g, i, none⟩ (.string y)) B 9 1 (fun _ => False) v ((l.set i y).map strDt) := by
 obtain ⟨xs, ⟨hx1, hx2⟩, hrd⟩ := h
 have hxs := strs_news hrd
 rw [List.length_map] at hx1 hx2
 rcases hx2 with ⟨_, h0⟩ | ⟨g, cap, cur, rfl, hB, hh, hncap, hcapm, hcs, htake⟩
 ·omega
 ·have hb : Blk w g cur.toList 9 := by unfold Blk; rw [hh]
  have hcl : cur.toList.length = cap := by rw [Array.length_toList, hcs, Nat.mul_one]
  rw [Nat.mul_one] at htake
  have hci : cur.toList[i]? = some (.string l[i]) := by
   have h1 : (cur.toList.take l.length)[i]? = some (.string l[i]) := by rw [htake, hxs]; simp [hi]
   rwa [List.getElem?_take, if_pos hi] at h1
  refine ⟨g, cap, rfl, hB, hb.lt, (hb.cell i).trans hci, hb.free i, fun y => ?_⟩
  have hb2 := hb.set i (.string y)
  refine ⟨(l.set i y).map Value.string, ⟨?_, .inr ⟨g, cap, (cur.toList.set i (.string y)).toArray, ?_, hB, hb2, ?_, hcapm, ?_, ?_⟩⟩, strs_chunks _ _ _⟩
  ·simp
  ·simp
  ·simpa using hncap
  ·simp [hcs]
  ·simp only [List.length_map, List.length_set, Nat.mul_one]
   rw [List.take_set, htake, hxs, List.map_set]
def hashP (s : ByteArray) : Bool := Lib.hasPrefix s.data.toList [35]
def addSemi (out : List ByteArray) : List ByteArray := out.set (out.length - 1) (out.getD (out.length - 1) ⟨#[]⟩ ++ (⟨#[59]⟩ : ByteArray))
def plStep (out : List ByteArray) (x : ByteArray) : List ByteArray := if hashP x then (if semiB x then addSemi out else out) else out ++ [x]
def plGo (ws : List ByteArray) : List ByteArray := ws.foldl plStep []
theorem plGo_snoc (ws : List ByteArray) (x : ByteArray) : plGo (ws ++ [x]) = plStep (plGo ws) x := by
 unfold plGo
 rw [List.foldl_append]
 rfl
theorem addSemi_size {out : List ByteArray} {n : Nat} (h : ∀ x ∈ out, x.size ≤ n) (h1 : 1 ≤ out.length) : ∀ x ∈ addSemi out, x.size ≤ n + 1 := by
 intro x hx
 unfold addSemi at hx
 rcases List.mem_or_eq_of_mem_set hx with h2 | h2
 ·have := h x h2; omega
 ·rw [h2, ByteArray.size_append]
  have h3 : out.getD (out.length - 1) ⟨#[]⟩ = out[out.length - 1]'(by omega) := by
   rw [List.getD_eq_getElem?_getD, List.getElem?_eq_getElem (by omega)]
   rfl
  rw [h3]
  have h4 := h _ (List.getElem_mem (show out.length - 1 < out.length by omega))
  show _ + 1 ≤ _
  omega
def PlSt (ws : List ByteArray) (w : World) (B : Nat) (vi vo : Value) (wr : World) : Prop :=
 ∃ (j : Nat) (out : List ByteArray) (ao : Option Addr) (cp : Nat), j ≤ ws.length ∧ vi = .int .i64 (j : Nat) ∧ vo = .slice ao out.length cp ∧ plGo (ws.take j) = out ∧ Chg NoB w wr ∧ Own wr B 9 1 (fun _ => False) vo (out.map strDt) ∧ out.length ≤ j ∧ ∀ x ∈ out, x.size ≤ 80000 + j
theorem plain_any (s : ByteArray) (ws : List ByteArray) (w : World) (hs : s.size < 4294967281) (hascii : ∀ (j : Nat) b, s.data.toList[j]? = some b → b.toNat < 128) (htab : Lib.TabIs Tryz.prog w "strings.asciiSpace" .u8 Lib.asciiSpaceTab)
  (hws : (Lib.fields s.data.toList).map (fun l => (⟨l.toArray⟩ : ByteArray)) = ws) (hwl : ws.length ≤ 10000) (hsz : ∀ x ∈ ws, x.size ≤ 80000) (hno : ∀ j (h : j < ws.length), hashP ws[j] = true → semiB ws[j] = true → 1 ≤ (plGo (ws.take j)).length) (hne : 1 ≤ (plGo ws).length) :
  Calls Tryz.prog 129 #[.string s] w (RetV (.string ⟨(joinW (plGo ws)).toArray⟩) w) := by
 have hf := Tryz.strings_Fields s w hs hascii htab
 have hfl : (Lib.fields s.data.toList).length = ws.length := by rw [← hws, List.length_map]
 have hfc : ((Lib.fields s.data.toList).map fun l => Value.string ⟨l.toArray⟩) = ws.map Value.string := by rw [← hws, List.map_map]; rfl
 rw [hfl, hfc] at hf
 have Hsz := Lib.hid hsz
 have Hno := Lib.hid hno
 have Hne := Lib.hid hne
 clear hsz hno hne hws hfl hfc hascii htab
 go_enter Tryz.func129, Tryz.ntmps129
 go_wp2_with fail
 refine hf.mono ?_
 rintro en w1 ⟨rfl, hww⟩
 have hc1 : Chg NoB w w1 := by
  rw [← hww.symm]
  repeat (first | exact Chg.refl _ _ | apply Chg.alloc | apply Chg.drew)
 have hb1 : Blk w1 w.heap.size (ws.map Value.string) 9 := by rw [hww]; exact Blk.newAt rfl
 clear hf hww
 have hz1 := hb1.lt
 go_wp2_with fail
 go_loopw [9, 3] (fun vi vo wr => PlSt ws w1 w1.heap.size vi vo wr) (fun vi _ _ => ws.length - (intOf vi).toNat)
 case atStart => exact ⟨0, [], none, 0, Nat.zero_le _, rfl, rfl, rfl, Chg.refl _ _, Own.nil _ _ _ _ _, Nat.le_refl _, fun x hx => (List.not_mem_nil hx).elim⟩
 case round =>
  obtain ⟨j, out, ao, cp, hj, rfl, rfl, heq, hcr, ho, hol, hos⟩ := hrel
  have Heq := Lib.hid heq
  have Hos := Lib.hid hos
  clear heq hos
  by_cases hlt : j < ws.length
  ·have hltI : (j : Int) < (ws.length : Int) := by omega
   have hcw : wr.cell? ⟨w.heap.size, j, none⟩ = some (.string (ws[j]'hlt)) := (hcr.cell (p := ⟨w.heap.size, j, none⟩) hz1 nbE).trans (by rw [hb1.cell j, List.getElem?_map, List.getElem?_eq_getElem hlt]; rfl)
   have hxs := Hsz.out _ (List.getElem_mem hlt)
   have hstep := plGo_snoc (ws.take j) (ws[j]'hlt)
   rw [← List.take_succ_eq_append_getElem hlt, Heq.out] at hstep
   have hnoj := Hno.out j hlt
   rw [Heq.out] at hnoj
   generalize ws[j]'hlt = x at hcw hxs hstep hnoj
   have Hstep := Lib.hid hstep
   have Hnoj := Lib.hid hnoj
   clear hstep hnoj
   have hp := Tryz.strings_HasPrefix x ⟨#[35]⟩ wr
   rw [show Lib.hasPrefix x.data.toList (⟨#[35]⟩ : ByteArray).data.toList = hashP x from rfl] at hp
   have hsf := Tryz.strings_HasSuffix x ⟨#[59]⟩ wr (by omega)
   rw [show Lib.hasSuffix x.data.toList (⟨#[59]⟩ : ByteArray).data.toList = semiB x from rfl] at hsf
   cases hh : hashP x with
   | false =>
    have hst : plStep out x = out ++ [x] := by unfold plStep; rw [if_neg (by rw [hh]; simp)]
    rw [hh] at hp
    have Hst := Lib.hid hst
    clear hst hh hsf
    go_wp2_with fail
    refine hp.mono ?_
    rintro en w0 ⟨rfl, h0⟩
    obtain rfl := h0.symm
    clear h0 hp
    go_wp2_with (at_builtin; refine stop_here ?_)
    refine Stop.go ?_
    generalize hwA : World.alloc wr _ = wA
    have hcA : Chg NoB wr wA := by
     rw [← hwA]
     repeat (first | exact Chg.refl _ _ | apply Chg.alloc | apply Chg.drew)
    have hbA : Blk wA (wr.heap.size) ([.string x]) 9 := by
     rw [← hwA]
     repeat (first | exact Blk.newAt (by first | rfl | (simp; done) | (simp; omega)) | apply Blk.alloc | apply Blk.drew)
    clear hwA
    have hoA := ho.keep hcA (fun _ h => h.elim) (fun _ _ => nbE)
    have hlm : (out.map strDt).length = out.length := List.length_map ..
    refine wpList_own rfl (.tmp 16) (.tmp 18) 37 rfl w1.heap.size 9 Tryz.underlying37 infoStr rfl (by decide) rfl hoA rfl [strDt x] [.string x] rfl (ReadsC.single rfl (reads_str _ _ _)) hbA.news (fun e => by cases e) ?_ ?_ ?_ ?_
    ·rw [hlm]; unfold maxLen; omega
    ·rw [hlm]; omega
    ·have := (hcr.tr hcA).size; omega
    intro ao2 cp2 wB hoB hcB hatB
    rw [hlm] at hoB ⊢
    have hcV : Chg NoB w1 wB := (hcr.tr hcA).trans hcB (fun y e => .inr (hoA.block y e).1)
    go_wp2_with fail
    refine ⟨⟨j + 1, out ++ [x], ao2, cp2, hlt, by go_num, by simp, by rw [Hstep.out, Hst.out], hcV, by rw [List.map_append]; exact hoB, by simp only [List.length_append, List.length_singleton]; omega, fun y hy => ?_⟩, by simp [intOf]; omega⟩
    rcases List.mem_append.1 hy with hy | hy
    ·have := Hos.out y hy; omega
    ·obtain rfl := List.mem_singleton.1 hy
     omega
   | true =>
    rw [hh] at hp
    cases hs2 : semiB x with
    | false =>
     have hst : plStep out x = out := by unfold plStep; rw [if_pos hh, if_neg (by rw [hs2]; simp)]
     rw [hs2] at hsf
     have Hst := Lib.hid hst
     clear hst hh hs2
     go_wp2_with fail
     refine hp.mono ?_
     rintro en w0 ⟨rfl, h0⟩
     obtain rfl := h0.symm
     clear h0 hp
     go_wp2_with fail
     refine hsf.mono ?_
     rintro en w0 ⟨rfl, h0⟩
     obtain rfl := h0.symm
     clear h0 hsf
     go_wp2_with fail
     exact ⟨⟨j + 1, out, ao, cp, hlt, by go_num, rfl, by rw [Hstep.out, Hst.out], hcr, ho, by omega, fun y hy => by have := Hos.out y hy; omega⟩, by simp [intOf]; omega⟩
    | true =>
     have hst : plStep out x = addSemi out := by unfold plStep; rw [if_pos hh, if_pos hs2]
     have hn1 := Hnoj.out hh hs2
     rw [hs2] at hsf
     have Hst := Lib.hid hst
     clear hst hh hs2
     obtain ⟨g, cap, hvv, hgB, hglt, hgc, hgf, hgo⟩ := own_str ho (i := out.length - 1) (by omega)
     obtain ⟨rfl, -, rfl⟩ := Value.slice.inj hvv
     have hgB2 : w1.heap.size ≤ g := hgB
     have Hgo := Lib.hid hgo
     clear hvv hgo
     have hqx : out.getD (out.length - 1) ⟨#[]⟩ = out[out.length - 1]'(by omega) := by
      rw [List.getD_eq_getElem?_getD, List.getElem?_eq_getElem (by omega)]
      rfl
     have hysz := Hos.out _ (List.getElem_mem (show out.length - 1 < out.length by omega))
     have hgo2 := Hgo.out (out[out.length - 1]'(by omega) ++ (⟨#[59]⟩ : ByteArray))
     generalize out[out.length - 1]'(by omega) = y at hgc hqx hysz hgo2
     have hadd : addSemi out = out.set (out.length - 1) (y ++ (⟨#[59]⟩ : ByteArray)) := by unfold addSemi; rw [hqx]
     have Hadd := Lib.hid hadd
     have Hgo2 := Lib.hid hgo2
     clear hadd hgo2 hqx
     go_wp2_with fail
     refine hp.mono ?_
     rintro en w0 ⟨rfl, h0⟩
     obtain rfl := h0.symm
     clear h0 hp
     go_wp2_with fail
     refine hsf.mono ?_
     rintro en w0 ⟨rfl, h0⟩
     obtain rfl := h0.symm
     clear h0 hsf
     go_wp2_with fail
     have hc9 : Chg NoB w1 (wr.setCell ⟨g, out.length - 1, none⟩ (.string (y ++ (⟨#[59]⟩ : ByteArray)))) := hcr.setCell (p := ⟨g, out.length - 1, none⟩) (.inr hgB2) _
     refine ⟨⟨j + 1, out.set (out.length - 1) (y ++ (⟨#[59]⟩ : ByteArray)), some ⟨g, 0, none⟩, cp, hlt, by go_num, by rw [List.length_set], by rw [Hstep.out, Hst.out, Hadd.out], hc9, Hgo2.out, by rw [List.length_set]; omega, fun z hz => ?_⟩, by simp [intOf]; omega⟩
     rw [← Hadd.out] at hz
     have := addSemi_size Hos.out hn1 z hz
     omega
  ·have hje : j = ws.length := by omega
   have heq := Heq.out
   rw [hje, List.take_length] at heq
   have hne2 := Hne.out
   rw [heq] at hne2
   have Hfin := Lib.hid heq
   have hltI : ¬ (j : Int) < (ws.length : Int) := by omega
   have hrd := ho.reads (S' := fun y => w1.heap.size ≤ y) (fun _ h => h.elim) (fun y hy _ => hy) (by rw [List.length_map]; unfold maxLen; omega)
   obtain ⟨a', c', hv, hlen', hcap', hel'⟩ := reads_list hrd
   rw [List.length_map] at hv hlen' hel'
   obtain ⟨rfl, -, rfl⟩ := Value.slice.inj hv
   obtain ⟨ob, off, rfl, _, hobw, hE⟩ := hel' (by omega)
   have hcells : ∀ (q : Nat) y, out[q]? = some y → wr.cell? ⟨ob, off + q, none⟩ = some (.string y) := fun q y hq => by
    obtain ⟨cs, h5, h6, h7⟩ := hE.get q (strDt y) (by simp [hq])
    obtain ⟨rfl, _⟩ := h7
    have := h6 0 _ rfl
    simpa using this
   have Hcells := Lib.hid hcells
   clear heq hje hrd hel' hE hcells
   go_wp2_with fail
   refine (join_any ob off _ out wr hne2 Hcells.out hobw (by omega) hlen' (fun y hy => by have := Hos.out y hy; omega)).mono ?_
   rintro en w5 ⟨rfl, hc5⟩
   go_wp2_with fail
   go_ret
   rw [Hfin.out]
   exact ⟨rfl, (hc1.tr hcr).tr hc5⟩
end Go.Proofs.YtnmhkafpgohefaaGreatDoor
