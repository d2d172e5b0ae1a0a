/-
  evolve.numbered: NODE with numbers from one on.
-/
import Derived.Test.YtnmhkafpgohefaaGreatDoorJoin
import Derived.Test.YtnmhkafpgohefaaGreatDoorNames
import Derived.Test.YtnmhkafpgohefaaGreatDoorText
import Derived.Lib.ItoaLen
set_option linter.unusedVariables false
set_option maxHeartbeats 20000000
set_option maxRecDepth 100000
set_option linter.unusedSimpArgs false
namespace Go.Proofs.YtnmhkafpgohefaaGreatDoor
open Go.RowKit
def semiB (s : ByteArray) : Bool := Lib.hasSuffix s.data.toList [59]
def cutS (s : ByteArray) : ByteArray := if semiB s then s.extract 0 (s.size - 1) else s
theorem semi_pos {s : ByteArray} (h : semiB s = true) : 1 ≤ s.size := by
 have h1 : [59] <:+ s.data.toList := List.isSuffixOf_iff_suffix.1 h
 have h2 := h1.length_le
 have h3 : s.data.toList.length = s.size := Array.length_toList
 simp only [List.length_singleton] at h2
 omega
theorem slCut_any (s : ByteArray) (w : World) (hs : s.size ≤ 9223372036854775807) :
  Calls Tryz.prog 171 #[.string s, .string ⟨#[59]⟩] w fun e w' => e = .returned (.tuple #[.string (cutS s), .bool (semiB s)]) ∧ w' = w := by
 have h := Tryz.stringslite_HasSuffix s ⟨#[59]⟩ w hs
 rw [show Lib.hasSuffix s.data.toList (⟨#[59]⟩ : ByteArray).data.toList = semiB s from rfl] at h
 go_enter Tryz.func171, Tryz.ntmps171
 go_wp2_with fail
 refine h.mono ?_
 rintro en w0 ⟨rfl, h0⟩
 obtain rfl := h0.symm
 clear h h0
 cases hb : semiB s with
 | false =>
  have hc : cutS s = s := by unfold cutS; rw [hb]; rfl
  have Hc := Lib.hid hc
  have Hb := Lib.hid hb
  clear hc hb
  go_wp2_with fail
  go_ret2
  rw [Hc.out, Hb.out]
  exact ⟨rfl, rfl⟩
 | true =>
  have hc : cutS s = s.extract 0 (s.size - 1) := by unfold cutS; rw [hb]; rfl
  have hp := semi_pos hb
  have hpI : (1 : Int) ≤ (s.size : Int) := by omega
  have Hc := Lib.hid hc
  have Hb := Lib.hid hb
  clear hc hb
  go_wp2_with fail
  go_ret2
  rw [Hc.out, Hb.out]
  exact ⟨rfl, rfl⟩
theorem cut_any (s : ByteArray) (w : World) (hs : s.size ≤ 9223372036854775807) :
  Calls Tryz.prog 148 #[.string s, .string ⟨#[59]⟩] w fun e w' => e = .returned (.tuple #[.string (cutS s), .bool (semiB s)]) ∧ w' = w := by
 go_enter Tryz.func148, Tryz.ntmps148
 go_wp2_with fail
 refine (slCut_any s w hs).mono ?_
 rintro en w0 ⟨rfl, h0⟩
 obtain rfl := h0.symm
 clear h0
 go_wp2_with fail
 go_ret2
 exact ⟨rfl, rfl⟩
def strDt (s : ByteArray) : Dt := .lit (.string s)
theorem reads_str (w : World) (S : Nat → Prop) (s : ByteArray) : Reads w S (strDt s) [.string s] := ⟨rfl, rfl⟩
theorem infoStr : (Tryz.prog.info? 9).map (fun i => (i.zero, i.size, i.bytes)) = some (some (.string ⟨#[]⟩), 1, 16) := by kernel_rfl
def hashW (n : Int) : ByteArray := (⟨#[35]⟩ : ByteArray) ++ (⟨(Lib.itoa n).toArray⟩ : ByteArray)
def numStep (i : Nat) (nx : Int) (w : ByteArray) : List ByteArray × Int :=
 if semiB w then ([cutS w, hashW nx ++ (⟨#[59]⟩ : ByteArray)], nx + 1) else if w = ⟨#[123]⟩ ∧ 0 < i then ([hashW nx, w], nx + 1) else ([w], nx)
def numGo (nx : Int) (ws : List ByteArray) : List ByteArray × Int × Nat := ws.foldl (fun s x => (s.1 ++ (numStep s.2.2 s.2.1 x).1, (numStep s.2.2 s.2.1 x).2, s.2.2 + 1)) ([], nx, 0)
theorem numGo_snoc (nx : Int) (ws : List ByteArray) (x : ByteArray) : numGo nx (ws ++ [x]) = ((numGo nx ws).1 ++ (numStep (numGo nx ws).2.2 (numGo nx ws).2.1 x).1, (numStep (numGo nx ws).2.2 (numGo nx ws).2.1 x).2, (numGo nx ws).2.2 + 1) := by
 unfold numGo
 rw [List.foldl_append]
 rfl
theorem cutS_size (s : ByteArray) : (cutS s).size ≤ s.size := by
 unfold cutS
 split
 ·rw [ByteArray.size_extract]; omega
 ·exact Nat.le_refl _
theorem hashW_size (n : Int) (h0 : -9223372036854775808 ≤ n) (h1 : n ≤ 9223372036854775807) : (hashW n).size ≤ 22 := by
 have h2 := Lib.itoa_length_le n h0 h1
 have h3 : (hashW n).size = 1 + (Lib.itoa n).length := by
  unfold hashW
  rw [ByteArray.size_append]
  rfl
 omega
def NuSt (ws : List ByteArray) (nx0 : Int) (w : World) (B : Nat) (vi vn vo : Value) (wr : World) : Prop :=
 ∃ (j : Nat) (out : List ByteArray) (nx : Int) (ao : Option Addr) (cp : Nat), j ≤ ws.length ∧ vi = .int .i64 (j : Nat) ∧ vn = .int .i64 nx ∧ vo = .slice ao out.length cp ∧ numGo nx0 (ws.take j) = (out, nx, j) ∧ Chg NoB w wr ∧
  Own wr B 9 1 (fun _ => False) vo (out.map strDt) ∧ out.length ≤ 2 * j ∧ nx0 ≤ nx ∧ nx ≤ nx0 + j ∧ (∀ x ∈ out, x.size ≤ 90000) ∧ j ≤ out.length
theorem numbered_any (line : ByteArray) (ws : List ByteArray) (nx0 m : Int) (w : World) (hl : line.size < 4294967281) (hm : w.cell? ⟨15, 0, none⟩ = some (.int .i64 m)) (hws : ws = Lib.splitB ⟨#[32]⟩ 0 (Lib.countB line ⟨#[32]⟩) line) (hwl : ws.length = Lib.countB line ⟨#[32]⟩ + 1) (hw9 : ws.length ≤ 40000) (hsz : ∀ x ∈ ws, x.size ≤ 80000)
  (hn0 : 0 ≤ nx0) (hn1 : nx0 ≤ 1000000) (hT : Tabs w.heap.size w) :
  Calls Tryz.prog 126 #[.string line, .int .i64 nx0] w (fun en w' => ∃ out nx, numGo nx0 ws = (out, nx, ws.length) ∧ en = .returned (.tuple #[.string ⟨(joinW out).toArray⟩, .int .i64 nx]) ∧ Chg NoB w w' ∧ out.length ≤ 2 * ws.length ∧ (∀ x ∈ out, x.size ≤ 90000) ∧ nx0 ≤ nx ∧ nx ≤ nx0 + ws.length) := by
 have hsp := Tryz.strings_Split line ⟨#[32]⟩ m w hl hm (by decide)
 have hw1 : 1 ≤ ws.length := by omega
 rw [← hws, ← hwl] at hsp
 have Hsz := Lib.hid hsz
 clear hsz hws hwl
 go_enter Tryz.func126, Tryz.ntmps126
 go_wp2_with fail
 refine hsp.mono ?_
 rintro en w1 ⟨rfl, hww⟩
 have hc1 : Chg NoB w w1 := by
  rw [← hww.symm]
  repeat (first | exact Chg.refl _ _ | apply Chg.alloc | apply Chg.drew)
 have hb1 : Blk w1 w.heap.size (ws.map Value.string) 9 := by rw [hww]; exact Blk.newAt rfl
 clear hsp hww
 have hz1 := hb1.lt
 go_wp2_with fail
 go_loopw [16, 1, 7] (fun vi vn vo wr => NuSt ws nx0 w1 w1.heap.size vi vn vo wr) (fun vi _ _ _ => ws.length - (intOf vi).toNat)
 case atStart => exact ⟨0, [], nx0, none, 0, Nat.zero_le _, rfl, rfl, rfl, rfl, Chg.refl _ _, Own.nil _ _ _ _ _, by simp, Int.le_refl _, by simp, fun x hx => (List.not_mem_nil hx).elim, Nat.le_refl _⟩
 case round =>
  obtain ⟨j, out, nx, ao, cp, hj, rfl, rfl, rfl, heq, hcr, ho, hol, hnx1, hnx2, hos, hjo⟩ := hrel
  have Heq := Lib.hid heq
  have Hos := Lib.hid hos
  clear heq hos
  by_cases hlt : j < ws.length
  ·have hltI : (j : Int) < (ws.length : Int) := by omega
   have hcw : wr.cell? ⟨w.heap.size, j, none⟩ = some (.string (ws[j]'hlt)) := (hcr.cell (p := ⟨w.heap.size, j, none⟩) hz1 nbE).trans (by rw [hb1.cell j, List.getElem?_map, List.getElem?_eq_getElem hlt]; rfl)
   have hxs := Hsz.out _ (List.getElem_mem hlt)
   have hstep := numGo_snoc nx0 (ws.take j) (ws[j]'hlt)
   rw [← List.take_succ_eq_append_getElem hlt, Heq.out] at hstep
   generalize ws[j]'hlt = x at hcw hxs hstep
   have Hstep := Lib.hid hstep
   clear hstep
   go_wp2_with fail
   refine (cut_any x wr (by omega)).mono ?_
   rintro en w0 ⟨rfl, h0⟩
   obtain rfl := h0.symm
   clear h0
   have hnx64 : -9223372036854775808 ≤ nx ∧ nx ≤ 9223372036854775807 := by omega
   have hhs := hashW_size nx hnx64.1 hnx64.2
   have hcs := cutS_size x
   have htab := (hT.keep0 (hc1.tr hcr)).pow
   cases hb : semiB x with
   | true =>
    have hst : numStep j nx x = ([cutS x, hashW nx ++ (⟨#[59]⟩ : ByteArray)], nx + 1) := by unfold numStep; rw [if_pos hb]
    have Hst := Lib.hid hst
    clear hst hb
    go_wp2_with fail
    refine (Tryz.strconv_Itoa nx hnx64.1 hnx64.2 wr htab).mono ?_
    rintro en w2 ⟨rfl, hg2⟩
    have hc2 : Chg NoB wr w2 := chg_grow (C := NoB) hg2
    clear hg2
    have hsI : (⟨(Lib.itoa nx).toArray⟩ : ByteArray).size = (Lib.itoa nx).length := by simp [ByteArray.size]
    have hsL := Lib.itoa_length_le nx hnx64.1 hnx64.2
    go_wp2_with (at_builtin; refine stop_here ?_)
    refine Stop.go ?_
    generalize hwA : World.alloc w2 _ = wA
    have hc2A : Chg NoB w2 wA := by
     rw [← hwA]
     repeat (first | exact Chg.refl _ _ | apply Chg.alloc | apply Chg.drew)
    have hbA : Blk wA (w2.heap.size) ([.string (cutS x), .string (hashW nx ++ (⟨#[59]⟩ : ByteArray))]) 9 := by
     rw [← hwA]
     repeat (first | exact Blk.newAt (by first | rfl | (simp; done) | (simp; omega)) | apply Blk.alloc | apply Blk.drew)
    clear hwA
    have hcA : Chg NoB wr wA := hc2.tr hc2A
    have hoA := ho.keep hcA (fun _ h => h.elim) (fun _ _ => nbE)
    have hlm : (out.map strDt).length = out.length := List.length_map ..
    refine wpList_own rfl (.tmp 32) (.tmp 38) 37 rfl w1.heap.size 9 Tryz.underlying37 infoStr rfl (by decide) rfl hoA rfl [strDt (cutS x), strDt (hashW nx ++ (⟨#[59]⟩ : ByteArray))] [.string (cutS x), .string (hashW nx ++ (⟨#[59]⟩ : ByteArray))] rfl (ReadsC.append [_] [_] [_] [_] (ReadsC.single rfl (reads_str _ _ _)) (ReadsC.single rfl (reads_str _ _ _))) hbA.news (fun e => by cases e) ?_ ?_ ?_ ?_
    ·rw [hlm]; unfold maxLen; (try simp only [List.length_cons, List.length_nil]); omega
    ·rw [hlm]; (try simp only [List.length_cons, List.length_nil]); omega
    ·have := (hcr.tr hcA).size; omega
    intro ao2 cp2 wB hoB hcB hatB
    rw [hlm] at hoB ⊢
    have hcV : Chg NoB w1 wB := (hcr.tr hcA).trans hcB (fun y e => .inr (hoA.block y e).1)
    go_wp2_with fail
    refine ⟨⟨j + 1, out ++ (numStep j nx x).1, nx + 1, ao2, cp2, hlt, by go_num, by go_num, ?_, ?_, hcV, ?_, ?_, by omega, by omega, ?_, ?_⟩, by simp [intOf]; omega⟩
    ·rw [Hst.out]; simp
    ·rw [Hstep.out, Hst.out]
    ·rw [Hst.out, List.map_append]; exact hoB
    ·rw [Hst.out]; simp only [List.length_append, List.length_cons, List.length_nil]; omega
    ·rw [Hst.out]
     intro y hy
     rcases List.mem_append.1 hy with hy | hy
     ·exact Hos.out y hy
     ·simp only [List.mem_cons, List.not_mem_nil, or_false] at hy
      first
       | (rcases hy with rfl | rfl <;> first | omega | (rw [ByteArray.size_append]; show _ + 1 ≤ _; omega))
       | (subst hy; omega)
    ·rw [Hst.out]; simp only [List.length_append, List.length_cons, List.length_nil]; omega
   | false =>
    by_cases hbr : x = ⟨#[123]⟩
    ·by_cases hj0 : 0 < j
     ·have hst : numStep j nx x = ([hashW nx, x], nx + 1) := by unfold numStep; rw [if_neg (by rw [hb]; simp), if_pos ⟨hbr, hj0⟩]
      have Hst := Lib.hid hst
      have hbl : (x.toList == [123]) = true := by rw [hbr, Lib.toList_data]; rfl
      have hjI : (0 : Int) < (j : Int) := by omega
      clear hst hb hbr
      go_wp2_with fail
      refine (Tryz.strconv_Itoa nx hnx64.1 hnx64.2 wr htab).mono ?_
      rintro en w2 ⟨rfl, hg2⟩
      have hc2 : Chg NoB wr w2 := chg_grow (C := NoB) hg2
      clear hg2
      have hsI : (⟨(Lib.itoa nx).toArray⟩ : ByteArray).size = (Lib.itoa nx).length := by simp [ByteArray.size]
      have hsL := Lib.itoa_length_le nx hnx64.1 hnx64.2
      go_wp2_with (at_builtin; refine stop_here ?_)
      refine Stop.go ?_
      generalize hwA : World.alloc w2 _ = wA
      have hc2A : Chg NoB w2 wA := by
       rw [← hwA]
       repeat (first | exact Chg.refl _ _ | apply Chg.alloc | apply Chg.drew)
      have hbA : Blk wA (w2.heap.size) ([.string (hashW nx), .string x]) 9 := by
       rw [← hwA]
       repeat (first | exact Blk.newAt (by first | rfl | (simp; done) | (simp; omega)) | apply Blk.alloc | apply Blk.drew)
      clear hwA
      have hcA : Chg NoB wr wA := hc2.tr hc2A
      have hoA := ho.keep hcA (fun _ h => h.elim) (fun _ _ => nbE)
      have hlm : (out.map strDt).length = out.length := List.length_map ..
      refine wpList_own rfl (.tmp 49) (.tmp 54) 37 rfl w1.heap.size 9 Tryz.underlying37 infoStr rfl (by decide) rfl hoA rfl [strDt (hashW nx), strDt x] [.string (hashW nx), .string x] rfl (ReadsC.append [_] [_] [_] [_] (ReadsC.single rfl (reads_str _ _ _)) (ReadsC.single rfl (reads_str _ _ _))) hbA.news (fun e => by cases e) ?_ ?_ ?_ ?_
      ·rw [hlm]; unfold maxLen; (try simp only [List.length_cons, List.length_nil]); omega
      ·rw [hlm]; (try simp only [List.length_cons, List.length_nil]); omega
      ·have := (hcr.tr hcA).size; omega
      intro ao2 cp2 wB hoB hcB hatB
      rw [hlm] at hoB ⊢
      have hcV : Chg NoB w1 wB := (hcr.tr hcA).trans hcB (fun y e => .inr (hoA.block y e).1)
      go_wp2_with fail
      refine ⟨⟨j + 1, out ++ (numStep j nx x).1, nx + 1, ao2, cp2, hlt, by go_num, by go_num, ?_, ?_, hcV, ?_, ?_, by omega, by omega, ?_, ?_⟩, by simp [intOf]; omega⟩
      ·rw [Hst.out]; simp
      ·rw [Hstep.out, Hst.out]
      ·rw [Hst.out, List.map_append]; exact hoB
      ·rw [Hst.out]; simp only [List.length_append, List.length_cons, List.length_nil]; omega
      ·rw [Hst.out]
       intro y hy
       rcases List.mem_append.1 hy with hy | hy
       ·exact Hos.out y hy
       ·simp only [List.mem_cons, List.not_mem_nil, or_false] at hy
        first
         | (rcases hy with rfl | rfl <;> first | omega | (rw [ByteArray.size_append]; show _ + 1 ≤ _; omega))
         | (subst hy; omega)
      ·rw [Hst.out]; simp only [List.length_append, List.length_cons, List.length_nil]; omega
     ·have hst : numStep j nx x = ([x], nx) := by unfold numStep; rw [if_neg (by rw [hb]; simp), if_neg (fun h => hj0 h.2)]
      have Hst := Lib.hid hst
      have hbl : (x.toList == [123]) = true := by rw [hbr, Lib.toList_data]; rfl
      have hjI : ¬ (0 : Int) < (j : Int) := by omega
      clear hst hb hbr
      go_wp2_with (at_builtin; refine stop_here ?_)
      refine Stop.go ?_
      generalize hwA : World.alloc wr _ = wA
      have hcA : Chg NoB wr wA := by
       rw [← hwA]
       repeat (first | exact Chg.refl _ _ | apply Chg.alloc | apply Chg.drew)
      have hbA : Blk wA (wr.heap.size) ([.string x]) 9 := by
       rw [← hwA]
       repeat (first | exact Blk.newAt (by first | rfl | (simp; done) | (simp; omega)) | apply Blk.alloc | apply Blk.drew)
      clear hwA
      have hoA := ho.keep hcA (fun _ h => h.elim) (fun _ _ => nbE)
      have hlm : (out.map strDt).length = out.length := List.length_map ..
      refine wpList_own rfl (.tmp 26) (.tmp 28) 37 rfl w1.heap.size 9 Tryz.underlying37 infoStr rfl (by decide) rfl hoA rfl [strDt x] [.string x] rfl (ReadsC.single rfl (reads_str _ _ _)) hbA.news (fun e => by cases e) ?_ ?_ ?_ ?_
      ·rw [hlm]; unfold maxLen; (try simp only [List.length_cons, List.length_nil]); omega
      ·rw [hlm]; (try simp only [List.length_cons, List.length_nil]); omega
      ·have := (hcr.tr hcA).size; omega
      intro ao2 cp2 wB hoB hcB hatB
      rw [hlm] at hoB ⊢
      have hcV : Chg NoB w1 wB := (hcr.tr hcA).trans hcB (fun y e => .inr (hoA.block y e).1)
      go_wp2_with fail
      refine ⟨⟨j + 1, out ++ (numStep j nx x).1, nx, ao2, cp2, hlt, by go_num, by go_num, ?_, ?_, hcV, ?_, ?_, by omega, by omega, ?_, ?_⟩, by simp [intOf]; omega⟩
      ·rw [Hst.out]; simp
      ·rw [Hstep.out, Hst.out]
      ·rw [Hst.out, List.map_append]; exact hoB
      ·rw [Hst.out]; simp only [List.length_append, List.length_cons, List.length_nil]; omega
      ·rw [Hst.out]
       intro y hy
       rcases List.mem_append.1 hy with hy | hy
       ·exact Hos.out y hy
       ·simp only [List.mem_cons, List.not_mem_nil, or_false] at hy
        first
         | (rcases hy with rfl | rfl <;> first | omega | (rw [ByteArray.size_append]; show _ + 1 ≤ _; omega))
         | (subst hy; omega)
      ·rw [Hst.out]; simp only [List.length_append, List.length_cons, List.length_nil]; omega
    ·have hst : numStep j nx x = ([x], nx) := by unfold numStep; rw [if_neg (by rw [hb]; simp), if_neg (fun h => hbr h.1)]
     have Hst := Lib.hid hst
     have hbl : (x.toList == [123]) = false := by
      rw [beq_eq_false_iff_ne]
      intro e
      apply hbr
      have e2 : x.data.toList = (⟨#[123]⟩ : ByteArray).data.toList := by rw [← Lib.toList_data]; exact e
      obtain ⟨y⟩ := x
      have e3 : y = #[123] := Array.toList_inj.1 e2
      rw [e3]
     clear hst hb hbr
     go_wp2_with (at_builtin; refine stop_here ?_)
     refine Stop.go ?_
     generalize hwA : World.alloc wr _ = wA
     have hcA : Chg NoB wr wA := by
      rw [← hwA]
      repeat (first | exact Chg.refl _ _ | apply Chg.alloc | apply Chg.drew)
     have hbA : Blk wA (wr.heap.size) ([.string x]) 9 := by
      rw [← hwA]
      repeat (first | exact Blk.newAt (by first | rfl | (simp; done) | (simp; omega)) | apply Blk.alloc | apply Blk.drew)
     clear hwA
     have hoA := ho.keep hcA (fun _ h => h.elim) (fun _ _ => nbE)
     have hlm : (out.map strDt).length = out.length := List.length_map ..
     refine wpList_own rfl (.tmp 26) (.tmp 28) 37 rfl w1.heap.size 9 Tryz.underlying37 infoStr rfl (by decide) rfl hoA rfl [strDt x] [.string x] rfl (ReadsC.single rfl (reads_str _ _ _)) hbA.news (fun e => by cases e) ?_ ?_ ?_ ?_
     ·rw [hlm]; unfold maxLen; (try simp only [List.length_cons, List.length_nil]); omega
     ·rw [hlm]; (try simp only [List.length_cons, List.length_nil]); omega
     ·have := (hcr.tr hcA).size; omega
     intro ao2 cp2 wB hoB hcB hatB
     rw [hlm] at hoB ⊢
     have hcV : Chg NoB w1 wB := (hcr.tr hcA).trans hcB (fun y e => .inr (hoA.block y e).1)
     go_wp2_with fail
     refine ⟨⟨j + 1, out ++ (numStep j nx x).1, nx, ao2, cp2, hlt, by go_num, by go_num, ?_, ?_, hcV, ?_, ?_, by omega, by omega, ?_, ?_⟩, by simp [intOf]; omega⟩
     ·rw [Hst.out]; simp
     ·rw [Hstep.out, Hst.out]
     ·rw [Hst.out, List.map_append]; exact hoB
     ·rw [Hst.out]; simp only [List.length_append, List.length_cons, List.length_nil]; omega
     ·rw [Hst.out]
      intro y hy
      rcases List.mem_append.1 hy with hy | hy
      ·exact Hos.out y hy
      ·simp only [List.mem_cons, List.not_mem_nil, or_false] at hy
       first
        | (rcases hy with rfl | rfl <;> first | omega | (rw [ByteArray.size_append]; show _ + 1 ≤ _; omega))
        | (subst hy; omega)
     ·rw [Hst.out]; simp only [List.length_append, List.length_cons, List.length_nil]; omega
  ·have hje : j = ws.length := by omega
   have heq := Heq.out
   rw [hje, List.take_length] at heq
   have Hfin := Lib.hid heq
   have hltI : ¬ (j : Int) < (ws.length : Int) := by omega
   have hrd := ho.reads (S' := fun y => w1.heap.size ≤ y) (fun _ h => h.elim) (fun y hy _ => hy) (by rw [List.length_map]; unfold maxLen; omega)
   obtain ⟨a', c', hv, hlen', hcap', hel'⟩ := reads_list hrd
   rw [List.length_map] at hv hlen' hel'
   obtain ⟨rfl, -, rfl⟩ := Value.slice.inj hv
   obtain ⟨ob, off, rfl, _, hobw, hE⟩ := hel' (by have := hjo; omega)
   have hcells : ∀ (q : Nat) y, out[q]? = some y → wr.cell? ⟨ob, off + q, none⟩ = some (.string y) := fun q y hq => by
    obtain ⟨cs, h5, h6, h7⟩ := hE.get q (strDt y) (by simp [hq])
    obtain ⟨rfl, _⟩ := h7
    have := h6 0 _ rfl
    simpa using this
   have Hcells := Lib.hid hcells
   clear heq hje hrd hel' hE hcells
   go_wp2_with fail
   refine (join_any ob off _ out wr (by omega) Hcells.out hobw (by omega) hlen' (fun y hy => by have := Hos.out y hy; omega)).mono ?_
   rintro en w5 ⟨rfl, hc5⟩
   go_wp2_with fail
   go_ret2
   exact ⟨out, nx, Hfin.out, rfl, (hc1.tr hcr).tr hc5, by omega, Hos.out, hnx1, by omega⟩
end Go.Proofs.YtnmhkafpgohefaaGreatDoor
