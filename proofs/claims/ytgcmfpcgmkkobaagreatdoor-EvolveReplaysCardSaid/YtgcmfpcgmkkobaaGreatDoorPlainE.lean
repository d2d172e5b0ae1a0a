/-
  evolve.numbered: NODE with numbers from one on.; evolve.plain: NODE, as P130 has it, of a schema's text.; evolve.drop: a node, and groups that have nothing left, taken out of a tree in place.
-/
import Derived.Test.YtgcmfpcgmkkobaaGreatDoorRowOps
import Derived.Test.YtgcmfpcgmkkobaaGreatDoorTree
import Derived.Test.YtgcmfpcgmkkobaaGreatDoorTextAll
import Derived.Lib.ItoaLen
import Derived.Test.YtgcmfpcgmkkobaaGreatDoorIdx
set_option linter.unusedVariables false
set_option maxHeartbeats 20000000
set_option maxRecDepth 100000
set_option linter.unusedSimpArgs false
namespace Go.Proofs.YtgcmfpcgmkkobaaGreatDoor
open Go.RowKit
def semiB (s : ByteArray) : Bool := Lib.hasSuffix s.data.toList [59]
def cutS (s : ByteArray) : ByteArray := if semiB s then s.extract 0 (s.size - 1) else s
theorem semi_pos {s : ByteArray} (h : semiB s = true) : 1 ≤ s.size := by
 have h1 : [59] <:+ s.data.toList := List.isSuffixOf_iff_suffix.1 h
 have h2 := h1.length_le
 have h3 : s.data.toList.length = s.size := Array.length_toList
 simp only [List.length_singleton] at h2
 omega
theorem slCut_any (s : ByteArray) (w : World) (hs : s.size ≤ 9223372036854775807) :
  Calls Tryz.prog 165 #[.string s, .string ⟨#[59]⟩] w fun e w' => e = .returned (.tuple #[.string (cutS s), .bool (semiB s)]) ∧ w' = w := by
 have h := Tryz.stringslite_HasSuffix s ⟨#[59]⟩ w hs
 rw [show Lib.hasSuffix s.data.toList (⟨#[59]⟩ : ByteArray).data.toList = semiB s from rfl] at h
 go_enter Tryz.func165, Tryz.ntmps165
 go_wp2_with fail
 refine h.mono ?_
 rintro en w0 ⟨rfl, h0⟩
 obtain rfl := h0.symm
 clear h h0
 cases hb : semiB s with
 | false =>
  have hc : cutS s = s := by unfold cutS; rw [hb]; rfl
  have Hc := Lib.hid hc
  have Hb := Lib.hid hb
  clear hc hb
  go_wp2_with fail
  go_ret2
  rw [Hc.out, Hb.out]
  exact ⟨rfl, rfl⟩
 | true =>
  have hc : cutS s = s.extract 0 (s.size - 1) := by unfold cutS; rw [hb]; rfl
  have hp := semi_pos hb
  have hpI : (1 : Int) ≤ (s.size : Int) := by omega
  have Hc := Lib.hid hc
  have Hb := Lib.hid hb
  clear hc hb
  go_wp2_with fail
  go_ret2
  rw [Hc.out, Hb.out]
  exact ⟨rfl, rfl⟩
theorem cut_any (s : ByteArray) (w : World) (hs : s.size ≤ 9223372036854775807) :
  Calls Tryz.prog 140 #[.string s, .string ⟨#[59]⟩] w fun e w' => e = .returned (.tuple #[.string (cutS s), .bool (semiB s)]) ∧ w' = w := by
 go_enter Tryz.func140, Tryz.ntmps140
 go_wp2_with fail
 refine (slCut_any s w hs).mono ?_
 rintro en w0 ⟨rfl, h0⟩
 obtain rfl := h0.symm
 clear h0
 go_wp2_with fail
 go_ret2
 exact ⟨rfl, rfl⟩
def strDt (s : ByteArray) : Dt := .lit (.string s)
theorem reads_str (w : World) (S : Nat → Prop) (s : ByteArray) : Reads w S (strDt s) [.string s] := ⟨rfl, rfl⟩
theorem infoStr : (Tryz.prog.info? 9).map (fun i => (i.zero, i.size, i.bytes)) = some (some (.string ⟨#[]⟩), 1, 16) := by kernel_rfl
def hashW (n : Int) : ByteArray := (⟨#[35]⟩ : ByteArray) ++ (⟨(Lib.itoa n).toArray⟩ : ByteArray)
def numStep (i : Nat) (nx : Int) (w : ByteArray) : List ByteArray × Int :=
 if semiB w then ([cutS w, hashW nx ++ (⟨#[59]⟩ : ByteArray)], nx + 1) else if w = ⟨#[123]⟩ ∧ 0 < i then ([hashW nx, w], nx + 1) else ([w], nx)
def numGo (nx : Int) (ws : List ByteArray) : List ByteArray × Int × Nat := ws.foldl (fun s x => (s.1 ++ (numStep s.2.2 s.2.1 x).1, (numStep s.2.2 s.2.1 x).2, s.2.2 + 1)) ([], nx, 0)
theorem numGo_snoc (nx : Int) (ws : List ByteArray) (x : ByteArray) : numGo nx (ws ++ [x]) = ((numGo nx ws).1 ++ (numStep (numGo nx ws).2.2 (numGo nx ws).2.1 x).1, (numStep (numGo nx ws).2.2 (numGo nx ws).2.1 x).2, (numGo nx ws).2.2 + 1) := by
 unfold numGo
 rw [List.foldl_append]
 rfl
theorem cutS_size (s : ByteArray) : (cutS s).size ≤ s.size := by
 unfold cutS
 split
 ·rw [ByteArray.size_extract]; omega
 ·exact Nat.le_refl _
theorem hashW_size (n : Int) (h0 : -9223372036854775808 ≤ n) (h1 : n ≤ 9223372036854775807) : (hashW n).size ≤ 22 := by
 have h2 := Lib.itoa_length_le n h0 h1
 have h3 : (hashW n).size = 1 + (Lib.itoa n).length := by
  unfold hashW
  rw [ByteArray.size_append]
  rfl
 omega
def NuSt (ws : List ByteArray) (nx0 : Int) (w : World) (B : Nat) (vi vn vo : Value) (wr : World) : Prop :=
 ∃ (j : Nat) (out : List ByteArray) (nx : Int) (ao : Option Addr) (cp : Nat), j ≤ ws.length ∧ vi = .int .i64 (j : Nat) ∧ vn = .int .i64 nx ∧ vo = .slice ao out.length cp ∧ numGo nx0 (ws.take j) = (out, nx, j) ∧ Chg NoB w wr ∧
  Own wr B 9 1 (fun _ => False) vo (out.map strDt) ∧ out.length ≤ 2 * j ∧ nx0 ≤ nx ∧ nx ≤ nx0 + j ∧ (∀ x ∈ out, x.size ≤ 90000) ∧ j ≤ out.length
theorem numbered_any (line : ByteArray) (ws : List ByteArray) (nx0 m : Int) (w : World) (hl : line.size < 4294967281) (hm : w.cell? ⟨11, 0, none⟩ = some (.int .i64 m)) (hws : ws = Lib.splitB ⟨#[32]⟩ 0 (Lib.countB line ⟨#[32]⟩) line) (hwl : ws.length = Lib.countB line ⟨#[32]⟩ + 1) (hw9 : ws.length ≤ 40000) (hsz : ∀ x ∈ ws, x.size ≤ 80000)
  (hn0 : 0 ≤ nx0) (hn1 : nx0 ≤ 1000000) (hT : Tabs w.heap.size w) :
  Calls Tryz.prog 117 #[.string line, .int .i64 nx0] w (fun en w' => ∃ out nx, numGo nx0 ws = (out, nx, ws.length) ∧ en = .returned (.tuple #[.string ⟨(joinW out).toArray⟩, .int .i64 nx]) ∧ Chg NoB w w' ∧ out.length ≤ 2 * ws.length ∧ (∀ x ∈ out, x.size ≤ 90000) ∧ nx0 ≤ nx ∧ nx ≤ nx0 + ws.length) := by
 have hsp := Tryz.strings_Split line ⟨#[32]⟩ m w hl hm (by decide)
 have hw1 : 1 ≤ ws.length := by omega
 rw [← hws, ← hwl] at hsp
 have Hsz := Lib.hid hsz
 clear hsz hws hwl
 go_enter Tryz.func117, Tryz.ntmps117
 go_wp2_with fail
 refine hsp.mono ?_
 rintro en w1 ⟨rfl, hww⟩
 have hc1 : Chg NoB w w1 := by
  rw [← hww.symm]
  repeat (first | exact Chg.refl _ _ | apply Chg.alloc | apply Chg.drew)
 have hb1 : Blk w1 w.heap.size (ws.map Value.string) 9 := by rw [hww]; exact Blk.newAt rfl
 clear hsp hww
 have hz1 := hb1.lt
 go_wp2_with fail
 go_loopw [16, 1, 7] (fun vi vn vo wr => NuSt ws nx0 w1 w1.heap.size vi vn vo wr) (fun vi _ _ _ => ws.length - (intOf vi).toNat)
 case atStart => exact ⟨0, [], nx0, none, 0, Nat.zero_le _, rfl, rfl, rfl, rfl, Chg.refl _ _, Own.nil _ _ _ _ _, by simp, Int.le_refl _, by simp, fun x hx => (List.not_mem_nil hx).elim, Nat.le_refl _⟩
 case round =>
  obtain ⟨j, out, nx, ao, cp, hj, rfl, rfl, rfl, heq, hcr, ho, hol, hnx1, hnx2, hos, hjo⟩ := hrel
  have Heq := Lib.hid heq
  have Hos := Lib.hid hos
  clear heq hos
  by_cases hlt : j < ws.length
  ·have hltI : (j : Int) < (ws.length : Int) := by omega
   have hcw : wr.cell? ⟨w.heap.size, j, none⟩ = some (.string (ws[j]'hlt)) := (hcr.cell (p := ⟨w.heap.size, j, none⟩) hz1 nbE).trans (by rw [hb1.cell j, List.getElem?_map, List.getElem?_eq_getElem hlt]; rfl)
   have hxs := Hsz.out _ (List.getElem_mem hlt)
   have hstep := numGo_snoc nx0 (ws.take j) (ws[j]'hlt)
   rw [← List.take_succ_eq_append_getElem hlt, Heq.out] at hstep
   generalize ws[j]'hlt = x at hcw hxs hstep
   have Hstep := Lib.hid hstep
   clear hstep
   go_wp2_with fail
   refine (cut_any x wr (by omega)).mono ?_
   rintro en w0 ⟨rfl, h0⟩
   obtain rfl := h0.symm
   clear h0
   have hnx64 : -9223372036854775808 ≤ nx ∧ nx ≤ 9223372036854775807 := by omega
   have hhs := hashW_size nx hnx64.1 hnx64.2
   have hcs := cutS_size x
   have htab := (hT.keep0 (hc1.tr hcr)).pow
   cases hb : semiB x with
   | true =>
    have hst : numStep j nx x = ([cutS x, hashW nx ++ (⟨#[59]⟩ : ByteArray)], nx + 1) := by unfold numStep; rw [if_pos hb]
    have Hst := Lib.hid hst
    clear hst hb
    go_wp2_with fail
    refine (Tryz.strconv_Itoa nx hnx64.1 hnx64.2 wr htab).mono ?_
    rintro en w2 ⟨rfl, hg2⟩
    have hc2 : Chg NoB wr w2 := chg_grow (C := NoB) hg2
    clear hg2
    have hsI : (⟨(Lib.itoa nx).toArray⟩ : ByteArray).size = (Lib.itoa nx).length := by simp [ByteArray.size]
    have hsL := Lib.itoa_length_le nx hnx64.1 hnx64.2
    go_wp2_with (at_builtin; refine stop_here ?_)
    refine Stop.go ?_
    generalize hwA : World.alloc w2 _ = wA
    have hc2A : Chg NoB w2 wA := by
     rw [← hwA]
     repeat (first | exact Chg.refl _ _ | apply Chg.alloc | apply Chg.drew)
    have hbA : Blk wA (w2.heap.size) ([.string (cutS x), .string (hashW nx ++ (⟨#[59]⟩ : ByteArray))]) 9 := by
     rw [← hwA]
     repeat (first | exact Blk.newAt (by first | rfl | (simp; done) | (simp; omega)) | apply Blk.alloc | apply Blk.drew)
    clear hwA
    have hcA : Chg NoB wr wA := hc2.tr hc2A
    have hoA := ho.keep hcA (fun _ h => h.elim) (fun _ _ => nbE)
    have hlm : (out.map strDt).length = out.length := List.length_map ..
    refine wpList_own rfl (.tmp 32) (.tmp 38) 22 rfl w1.heap.size 9 Tryz.underlying22 infoStr rfl (by decide) rfl hoA rfl [strDt (cutS x), strDt (hashW nx ++ (⟨#[59]⟩ : ByteArray))] [.string (cutS x), .string (hashW nx ++ (⟨#[59]⟩ : ByteArray))] rfl (ReadsC.append [_] [_] [_] [_] (ReadsC.single rfl (reads_str _ _ _)) (ReadsC.single rfl (reads_str _ _ _))) hbA.news (fun e => by cases e) ?_ ?_ ?_ ?_
    ·rw [hlm]; unfold maxLen; (try simp only [List.length_cons, List.length_nil]); omega
    ·rw [hlm]; (try simp only [List.length_cons, List.length_nil]); omega
    ·have := (hcr.tr hcA).size; omega
    intro ao2 cp2 wB hoB hcB hatB
    rw [hlm] at hoB ⊢
    have hcV : Chg NoB w1 wB := (hcr.tr hcA).trans hcB (fun y e => .inr (hoA.block y e).1)
    go_wp2_with fail
    refine ⟨⟨j + 1, out ++ (numStep j nx x).1, nx + 1, ao2, cp2, hlt, by go_num, by go_num, ?_, ?_, hcV, ?_, ?_, by omega, by omega, ?_, ?_⟩, by simp [intOf]; omega⟩
    ·rw [Hst.out]; simp
    ·rw [Hstep.out, Hst.out]
    ·rw [Hst.out, List.map_append]; exact hoB
    ·rw [Hst.out]; simp only [List.length_append, List.length_cons, List.length_nil]; omega
    ·rw [Hst.out]
     intro y hy
     rcases List.mem_append.1 hy with hy | hy
     ·exact Hos.out y hy
     ·simp only [List.mem_cons, List.not_mem_nil, or_false] at hy
      first
       | (rcases hy with rfl | rfl <;> first | omega | (rw [ByteArray.size_append]; show _ + 1 ≤ _; omega))
       | (subst hy; omega)
    ·rw [Hst.out]; simp only [List.length_append, List.length_cons, List.length_nil]; omega
   | false =>
    by_cases hbr : x = ⟨#[123]⟩
    ·by_cases hj0 : 0 < j
     ·have hst : numStep j nx x = ([hashW nx, x], nx + 1) := by unfold numStep; rw [if_neg (by rw [hb]; simp), if_pos ⟨hbr, hj0⟩]
      have Hst := Lib.hid hst
      have hbl : (x.toList == [123]) = true := by rw [hbr, Lib.toList_data]; rfl
      have hjI : (0 : Int) < (j : Int) := by omega
      clear hst hb hbr
      go_wp2_with fail
      refine (Tryz.strconv_Itoa nx hnx64.1 hnx64.2 wr htab).mono ?_
      rintro en w2 ⟨rfl, hg2⟩
      have hc2 : Chg NoB wr w2 := chg_grow (C := NoB) hg2
      clear hg2
      have hsI : (⟨(Lib.itoa nx).toArray⟩ : ByteArray).size = (Lib.itoa nx).length := by simp [ByteArray.size]
      have hsL := Lib.itoa_length_le nx hnx64.1 hnx64.2
      go_wp2_with (at_builtin; refine stop_here ?_)
      refine Stop.go ?_
      generalize hwA : World.alloc w2 _ = wA
      have hc2A : Chg NoB w2 wA := by
       rw [← hwA]
       repeat (first | exact Chg.refl _ _ | apply Chg.alloc | apply Chg.drew)
      have hbA : Blk wA (w2.heap.size) ([.string (hashW nx), .string x]) 9 := by
       rw [← hwA]
       repeat (first | exact Blk.newAt (by first | rfl | (simp; done) | (simp; omega)) | apply Blk.alloc | apply Blk.drew)
      clear hwA
      have hcA : Chg NoB wr wA := hc2.tr hc2A
      have hoA := ho.keep hcA (fun _ h => h.elim) (fun _ _ => nbE)
      have hlm : (out.map strDt).length = out.length := List.length_map ..
      refine wpList_own rfl (.tmp 49) (.tmp 54) 22 rfl w1.heap.size 9 Tryz.underlying22 infoStr rfl (by decide) rfl hoA rfl [strDt (hashW nx), strDt x] [.string (hashW nx), .string x] rfl (ReadsC.append [_] [_] [_] [_] (ReadsC.single rfl (reads_str _ _ _)) (ReadsC.single rfl (reads_str _ _ _))) hbA.news (fun e => by cases e) ?_ ?_ ?_ ?_
      ·rw [hlm]; unfold maxLen; (try simp only [List.length_cons, List.length_nil]); omega
      ·rw [hlm]; (try simp only [List.length_cons, List.length_nil]); omega
      ·have := (hcr.tr hcA).size; omega
      intro ao2 cp2 wB hoB hcB hatB
      rw [hlm] at hoB ⊢
      have hcV : Chg NoB w1 wB := (hcr.tr hcA).trans hcB (fun y e => .inr (hoA.block y e).1)
      go_wp2_with fail
      refine ⟨⟨j + 1, out ++ (numStep j nx x).1, nx + 1, ao2, cp2, hlt, by go_num, by go_num, ?_, ?_, hcV, ?_, ?_, by omega, by omega, ?_, ?_⟩, by simp [intOf]; omega⟩
      ·rw [Hst.out]; simp
      ·rw [Hstep.out, Hst.out]
      ·rw [Hst.out, List.map_append]; exact hoB
      ·rw [Hst.out]; simp only [List.length_append, List.length_cons, List.length_nil]; omega
      ·rw [Hst.out]
       intro y hy
       rcases List.mem_append.1 hy with hy | hy
       ·exact Hos.out y hy
       ·simp only [List.mem_cons, List.not_mem_nil, or_false] at hy
        first
         | (rcases hy with rfl | rfl <;> first | omega | (rw [ByteArray.size_append]; show _ + 1 ≤ _; omega))
         | (subst hy; omega)
      ·rw [Hst.out]; simp only [List.length_append, List.length_cons, List.length_nil]; omega
     ·have hst : numStep j nx x = ([x], nx) := by unfold numStep; rw [if_neg (by rw [hb]; simp), if_neg (fun h => hj0 h.2)]
      have Hst := Lib.hid hst
      have hbl : (x.toList == [123]) = true := by rw [hbr, Lib.toList_data]; rfl
      have hjI : ¬ (0 : Int) < (j : Int) := by omega
      clear hst hb hbr
      go_wp2_with (at_builtin; refine stop_here ?_)
      refine Stop.go ?_
      generalize hwA : World.alloc wr _ = wA
      have hcA : Chg NoB wr wA := by
       rw [← hwA]
       repeat (first | exact Chg.refl _ _ | apply Chg.alloc | apply Chg.drew)
      have hbA : Blk wA (wr.heap.size) ([.string x]) 9 := by
       rw [← hwA]
       repeat (first | exact Blk.newAt (by first | rfl | (simp; done) | (simp; omega)) | apply Blk.alloc | apply Blk.drew)
      clear hwA
      have hoA := ho.keep hcA (fun _ h => h.elim) (fun _ _ => nbE)
      have hlm : (out.map strDt).length = out.length := List.length_map ..
      refine wpList_own rfl (.tmp 26) (.tmp 28) 22 rfl w1.heap.size 9 Tryz.underlying22 infoStr rfl (by decide) rfl hoA rfl [strDt x] [.string x] rfl (ReadsC.single rfl (reads_str _ _ _)) hbA.news (fun e => by cases e) ?_ ?_ ?_ ?_
      ·rw [hlm]; unfold maxLen; (try simp only [List.length_cons, List.length_nil]); omega
      ·rw [hlm]; (try simp only [List.length_cons, List.length_nil]); omega
      ·have := (hcr.tr hcA).size; omega
      intro ao2 cp2 wB hoB hcB hatB
      rw [hlm] at hoB ⊢
      have hcV : Chg NoB w1 wB := (hcr.tr hcA).trans hcB (fun y e => .inr (hoA.block y e).1)
      go_wp2_with fail
      refine ⟨⟨j + 1, out ++ (numStep j nx x).1, nx, ao2, cp2, hlt, by go_num, by go_num, ?_, ?_, hcV, ?_, ?_, by omega, by omega, ?_, ?_⟩, by simp [intOf]; omega⟩
      ·rw [Hst.out]; simp
      ·rw [Hstep.out, Hst.out]
      ·rw [Hst.out, List.map_append]; exact hoB
      ·rw [Hst.out]; simp only [List.length_append, List.length_cons, List.length_nil]; omega
      ·rw [Hst.out]
       intro y hy
       rcases List.mem_append.1 hy with hy | hy
       ·exact Hos.out y hy
       ·simp only [List.mem_cons, List.not_mem_nil, or_false] at hy
        first
         | (rcases hy with rfl | rfl <;> first | omega | (rw [ByteArray.size_append]; show _ + 1 ≤ _; omega))
         | (subst hy; omega)
      ·rw [Hst.out]; simp only [List.length_append, List.length_cons, List.length_nil]; omega
    ·have hst : numStep j nx x = ([x], nx) := by unfold numStep; rw [if_neg (by rw [hb]; simp), if_neg (fun h => hbr h.1)]
     have Hst := Lib.hid hst
     have hbl : (x.toList == [123]) = false := by
      rw [beq_eq_false_iff_ne]
      intro e
      apply hbr
      have e2 : x.data.toList = (⟨#[123]⟩ : ByteArray).data.toList := by rw [← Lib.toList_data]; exact e
      obtain ⟨y⟩ := x
      have e3 : y = #[123] := Array.toList_inj.1 e2
      rw [e3]
     clear hst hb hbr
     go_wp2_with (at_builtin; refine stop_here ?_)
     refine Stop.go ?_
     generalize hwA : World.alloc wr _ = wA
     have hcA : Chg NoB wr wA := by
      rw [← hwA]
      repeat (first | exact Chg.refl _ _ | apply Chg.alloc | apply Chg.drew)
     have hbA : Blk wA (wr.heap.size) ([.string x]) 9 := by
      rw [← hwA]
      repeat (first | exact Blk.newAt (by first | rfl | (simp; done) | (simp; omega)) | apply Blk.alloc | apply Blk.drew)
     clear hwA
     have hoA := ho.keep hcA (fun _ h => h.elim) (fun _ _ => nbE)
     have hlm : (out.map strDt).length = out.length := List.length_map ..
     refine wpList_own rfl (.tmp 26) (.tmp 28) 22 rfl w1.heap.size 9 Tryz.underlying22 infoStr rfl (by decide) rfl hoA rfl [strDt x] [.string x] rfl (ReadsC.single rfl (reads_str _ _ _)) hbA.news (fun e => by cases e) ?_ ?_ ?_ ?_
     ·rw [hlm]; unfold maxLen; (try simp only [List.length_cons, List.length_nil]); omega
     ·rw [hlm]; (try simp only [List.length_cons, List.length_nil]); omega
     ·have := (hcr.tr hcA).size; omega
     intro ao2 cp2 wB hoB hcB hatB
     rw [hlm] at hoB ⊢
     have hcV : Chg NoB w1 wB := (hcr.tr hcA).trans hcB (fun y e => .inr (hoA.block y e).1)
     go_wp2_with fail
     refine ⟨⟨j + 1, out ++ (numStep j nx x).1, nx, ao2, cp2, hlt, by go_num, by go_num, ?_, ?_, hcV, ?_, ?_, by omega, by omega, ?_, ?_⟩, by simp [intOf]; omega⟩
     ·rw [Hst.out]; simp
     ·rw [Hstep.out, Hst.out]
     ·rw [Hst.out, List.map_append]; exact hoB
     ·rw [Hst.out]; simp only [List.length_append, List.length_cons, List.length_nil]; omega
     ·rw [Hst.out]
      intro y hy
      rcases List.mem_append.1 hy with hy | hy
      ·exact Hos.out y hy
      ·simp only [List.mem_cons, List.not_mem_nil, or_false] at hy
       first
        | (rcases hy with rfl | rfl <;> first | omega | (rw [ByteArray.size_append]; show _ + 1 ≤ _; omega))
        | (subst hy; omega)
     ·rw [Hst.out]; simp only [List.length_append, List.length_cons, List.length_nil]; omega
  ·have hje : j = ws.length := by omega
   have heq := Heq.out
   rw [hje, List.take_length] at heq
   have Hfin := Lib.hid heq
   have hltI : ¬ (j : Int) < (ws.length : Int) := by omega
   have hrd := ho.reads (S' := fun y => w1.heap.size ≤ y) (fun _ h => h.elim) (fun y hy _ => hy) (by rw [List.length_map]; unfold maxLen; omega)
   obtain ⟨a', c', hv, hlen', hcap', hel'⟩ := reads_list hrd
   rw [List.length_map] at hv hlen' hel'
   obtain ⟨rfl, -, rfl⟩ := Value.slice.inj hv
   obtain ⟨ob, off, rfl, _, hobw, hE⟩ := hel' (by have := hjo; omega)
   have hcells : ∀ (q : Nat) y, out[q]? = some y → wr.cell? ⟨ob, off + q, none⟩ = some (.string y) := fun q y hq => by
    obtain ⟨cs, h5, h6, h7⟩ := hE.get q (strDt y) (by simp [hq])
    obtain ⟨rfl, _⟩ := h7
    have := h6 0 _ rfl
    simpa using this
   have Hcells := Lib.hid hcells
   clear heq hje hrd hel' hE hcells
   go_wp2_with fail
   refine (join_any ob off _ out wr (by omega) Hcells.out hobw (by omega) hlen' (fun y hy => by have := Hos.out y hy; omega)).mono ?_
   rintro en w5 ⟨rfl, hc5⟩
   go_wp2_with fail
   go_ret2
   exact ⟨out, nx, Hfin.out, rfl, (hc1.tr hcr).tr hc5, by omega, Hos.out, hnx1, by omega⟩
theorem strs_chunks (w : World) (S : Nat → Prop) : ∀ l : List ByteArray, ReadsC w S 1 (l.map strDt) (l.map Value.string)
 | [] => rfl
 | x :: xs => ⟨[.string x], xs.map Value.string, rfl, rfl, reads_str w S x, strs_chunks w S xs⟩
theorem strs_news {w : World} {S : Nat → Prop} : ∀ {l : List ByteArray} {xs : List Value}, ReadsC w S 1 (l.map strDt) xs → xs = l.map Value.string
 | [], xs, h => h
 | x :: r, xs, h => by
  obtain ⟨c, q, rfl, _, ⟨rfl, _⟩, h2⟩ := h
  rw [strs_news h2]
  rfl
theorem own_str {w : World} {B : Nat} {v : Value} {l : List ByteArray} (h : Own w B 9 1 (fun _ => False) v (l.map strDt)) {i : Nat} (hi : i < l.length) :
  ∃ g cap, v = .slice (some ⟨g, 0, none⟩) l.length cap ∧ B ≤ g ∧ g < w.heap.size ∧ w.cell? ⟨g, i, none⟩ = some (.string l[i]) ∧ w.frozen? ⟨g, i, none⟩ = false ∧ ∀ y : ByteArray, Own (w.setCell ⟨g, i, none⟩ (.string y)) B 9 1 (fun _ => False) v ((l.set i y).map strDt) := by
 obtain ⟨xs, ⟨hx1, hx2⟩, hrd⟩ := h
 have hxs := strs_news hrd
 rw [List.length_map] at hx1 hx2
 rcases hx2 with ⟨_, h0⟩ | ⟨g, cap, cur, rfl, hB, hh, hncap, hcapm, hcs, htake⟩
 ·omega
 ·have hb : Blk w g cur.toList 9 := by unfold Blk; rw [hh]
  have hcl : cur.toList.length = cap := by rw [Array.length_toList, hcs, Nat.mul_one]
  rw [Nat.mul_one] at htake
  have hci : cur.toList[i]? = some (.string l[i]) := by
   have h1 : (cur.toList.take l.length)[i]? = some (.string l[i]) := by rw [htake, hxs]; simp [hi]
   rwa [List.getElem?_take, if_pos hi] at h1
  refine ⟨g, cap, rfl, hB, hb.lt, (hb.cell i).trans hci, hb.free i, fun y => ?_⟩
  have hb2 := hb.set i (.string y)
  refine ⟨(l.set i y).map Value.string, ⟨?_, .inr ⟨g, cap, (cur.toList.set i (.string y)).toArray, ?_, hB, hb2, ?_, hcapm, ?_, ?_⟩⟩, strs_chunks _ _ _⟩
  ·simp
  ·simp
  ·simpa using hncap
  ·simp [hcs]
  ·simp only [List.length_map, List.length_set, Nat.mul_one]
   rw [List.take_set, htake, hxs, List.map_set]
def hashP (s : ByteArray) : Bool := Lib.hasPrefix s.data.toList [35]
def addSemi (out : List ByteArray) : List ByteArray := out.set (out.length - 1) (out.getD (out.length - 1) ⟨#[]⟩ ++ (⟨#[59]⟩ : ByteArray))
def plStep (out : List ByteArray) (x : ByteArray) : List ByteArray := if hashP x then (if semiB x then addSemi out else out) else out ++ [x]
def plGo (ws : List ByteArray) : List ByteArray := ws.foldl plStep []
theorem plGo_snoc (ws : List ByteArray) (x : ByteArray) : plGo (ws ++ [x]) = plStep (plGo ws) x := by
 unfold plGo
 rw [List.foldl_append]
 rfl
theorem addSemi_size {out : List ByteArray} {n : Nat} (h : ∀ x ∈ out, x.size ≤ n) (h1 : 1 ≤ out.length) : ∀ x ∈ addSemi out, x.size ≤ n + 1 := by
 intro x hx
 unfold addSemi at hx
 rcases List.mem_or_eq_of_mem_set hx with h2 | h2
 ·have := h x h2; omega
 ·rw [h2, ByteArray.size_append]
  have h3 : out.getD (out.length - 1) ⟨#[]⟩ = out[out.length - 1]'(by omega) := by
   rw [List.getD_eq_getElem?_getD, List.getElem?_eq_getElem (by omega)]
   rfl
  rw [h3]
  have h4 := h _ (List.getElem_mem (show out.length - 1 < out.length by omega))
  show _ + 1 ≤ _
  omega
def PlSt (ws : List ByteArray) (w : World) (B : Nat) (vi vo : Value) (wr : World) : Prop :=
 ∃ (j : Nat) (out : List ByteArray) (ao : Option Addr) (cp : Nat), j ≤ ws.length ∧ vi = .int .i64 (j : Nat) ∧ vo = .slice ao out.length cp ∧ plGo (ws.take j) = out ∧ Chg NoB w wr ∧ Own wr B 9 1 (fun _ => False) vo (out.map strDt) ∧ out.length ≤ j ∧ ∀ x ∈ out, x.size ≤ 80000 + j
theorem plain_any (s : ByteArray) (ws : List ByteArray) (w : World) (hs : s.size < 4294967281) (hascii : ∀ (j : Nat) b, s.data.toList[j]? = some b → b.toNat < 128) (htab : Lib.TabIs Tryz.prog w "strings.asciiSpace" .u8 Lib.asciiSpaceTab)
  (hws : (Lib.fields s.data.toList).map (fun l => (⟨l.toArray⟩ : ByteArray)) = ws) (hwl : ws.length ≤ 10000) (hsz : ∀ x ∈ ws, x.size ≤ 80000) (hno : ∀ j (h : j < ws.length), hashP ws[j] = true → semiB ws[j] = true → 1 ≤ (plGo (ws.take j)).length) (hne : 1 ≤ (plGo ws).length) :
  Calls Tryz.prog 120 #[.string s] w (RetV (.string ⟨(joinW (plGo ws)).toArray⟩) w) := by
 have hf := Tryz.strings_Fields s w hs hascii htab
 have hfl : (Lib.fields s.data.toList).length = ws.length := by rw [← hws, List.length_map]
 have hfc : ((Lib.fields s.data.toList).map fun l => Value.string ⟨l.toArray⟩) = ws.map Value.string := by rw [← hws, List.map_map]; rfl
 rw [hfl, hfc] at hf
 have Hsz := Lib.hid hsz
 have Hno := Lib.hid hno
 have Hne := Lib.hid hne
 clear hsz hno hne hws hfl hfc hascii htab
 go_enter Tryz.func120, Tryz.ntmps120
 go_wp2_with fail
 refine hf.mono ?_
 rintro en w1 ⟨rfl, hww⟩
 have hc1 : Chg NoB w w1 := by
  rw [← hww.symm]
  repeat (first | exact Chg.refl _ _ | apply Chg.alloc | apply Chg.drew)
 have hb1 : Blk w1 w.heap.size (ws.map Value.string) 9 := by rw [hww]; exact Blk.newAt rfl
 clear hf hww
 have hz1 := hb1.lt
 go_wp2_with fail
 go_loopw [9, 3] (fun vi vo wr => PlSt ws w1 w1.heap.size vi vo wr) (fun vi _ _ => ws.length - (intOf vi).toNat)
 case atStart => exact ⟨0, [], none, 0, Nat.zero_le _, rfl, rfl, rfl, Chg.refl _ _, Own.nil _ _ _ _ _, Nat.le_refl _, fun x hx => (List.not_mem_nil hx).elim⟩
 case round =>
  obtain ⟨j, out, ao, cp, hj, rfl, rfl, heq, hcr, ho, hol, hos⟩ := hrel
  have Heq := Lib.hid heq
  have Hos := Lib.hid hos
  clear heq hos
  by_cases hlt : j < ws.length
  ·have hltI : (j : Int) < (ws.length : Int) := by omega
   have hcw : wr.cell? ⟨w.heap.size, j, none⟩ = some (.string (ws[j]'hlt)) := (hcr.cell (p := ⟨w.heap.size, j, none⟩) hz1 nbE).trans (by rw [hb1.cell j, List.getElem?_map, List.getElem?_eq_getElem hlt]; rfl)
   have hxs := Hsz.out _ (List.getElem_mem hlt)
   have hstep := plGo_snoc (ws.take j) (ws[j]'hlt)
   rw [← List.take_succ_eq_append_getElem hlt, Heq.out] at hstep
   have hnoj := Hno.out j hlt
   rw [Heq.out] at hnoj
   generalize ws[j]'hlt = x at hcw hxs hstep hnoj
   have Hstep := Lib.hid hstep
   have Hnoj := Lib.hid hnoj
   clear hstep hnoj
   have hp := Tryz.strings_HasPrefix x ⟨#[35]⟩ wr
   rw [show Lib.hasPrefix x.data.toList (⟨#[35]⟩ : ByteArray).data.toList = hashP x from rfl] at hp
   have hsf := Tryz.strings_HasSuffix x ⟨#[59]⟩ wr (by omega)
   rw [show Lib.hasSuffix x.data.toList (⟨#[59]⟩ : ByteArray).data.toList = semiB x from rfl] at hsf
   cases hh : hashP x with
   | false =>
    have hst : plStep out x = out ++ [x] := by unfold plStep; rw [if_neg (by rw [hh]; simp)]
    rw [hh] at hp
    have Hst := Lib.hid hst
    clear hst hh hsf
    go_wp2_with fail
    refine hp.mono ?_
    rintro en w0 ⟨rfl, h0⟩
    obtain rfl := h0.symm
    clear h0 hp
    go_wp2_with (at_builtin; refine stop_here ?_)
    refine Stop.go ?_
    generalize hwA : World.alloc wr _ = wA
    have hcA : Chg NoB wr wA := by
     rw [← hwA]
     repeat (first | exact Chg.refl _ _ | apply Chg.alloc | apply Chg.drew)
    have hbA : Blk wA (wr.heap.size) ([.string x]) 9 := by
     rw [← hwA]
     repeat (first | exact Blk.newAt (by first | rfl | (simp; done) | (simp; omega)) | apply Blk.alloc | apply Blk.drew)
    clear hwA
    have hoA := ho.keep hcA (fun _ h => h.elim) (fun _ _ => nbE)
    have hlm : (out.map strDt).length = out.length := List.length_map ..
    refine wpList_own rfl (.tmp 16) (.tmp 18) 22 rfl w1.heap.size 9 Tryz.underlying22 infoStr rfl (by decide) rfl hoA rfl [strDt x] [.string x] rfl (ReadsC.single rfl (reads_str _ _ _)) hbA.news (fun e => by cases e) ?_ ?_ ?_ ?_
    ·rw [hlm]; unfold maxLen; omega
    ·rw [hlm]; omega
    ·have := (hcr.tr hcA).size; omega
    intro ao2 cp2 wB hoB hcB hatB
    rw [hlm] at hoB ⊢
    have hcV : Chg NoB w1 wB := (hcr.tr hcA).trans hcB (fun y e => .inr (hoA.block y e).1)
    go_wp2_with fail
    refine ⟨⟨j + 1, out ++ [x], ao2, cp2, hlt, by go_num, by simp, by rw [Hstep.out, Hst.out], hcV, by rw [List.map_append]; exact hoB, by simp only [List.length_append, List.length_singleton]; omega, fun y hy => ?_⟩, by simp [intOf]; omega⟩
    rcases List.mem_append.1 hy with hy | hy
    ·have := Hos.out y hy; omega
    ·obtain rfl := List.mem_singleton.1 hy
     omega
   | true =>
    rw [hh] at hp
    cases hs2 : semiB x with
    | false =>
     have hst : plStep out x = out := by unfold plStep; rw [if_pos hh, if_neg (by rw [hs2]; simp)]
     rw [hs2] at hsf
     have Hst := Lib.hid hst
     clear hst hh hs2
     go_wp2_with fail
     refine hp.mono ?_
     rintro en w0 ⟨rfl, h0⟩
     obtain rfl := h0.symm
     clear h0 hp
     go_wp2_with fail
     refine hsf.mono ?_
     rintro en w0 ⟨rfl, h0⟩
     obtain rfl := h0.symm
     clear h0 hsf
     go_wp2_with fail
     exact ⟨⟨j + 1, out, ao, cp, hlt, by go_num, rfl, by rw [Hstep.out, Hst.out], hcr, ho, by omega, fun y hy => by have := Hos.out y hy; omega⟩, by simp [intOf]; omega⟩
    | true =>
     have hst : plStep out x = addSemi out := by unfold plStep; rw [if_pos hh, if_pos hs2]
     have hn1 := Hnoj.out hh hs2
     rw [hs2] at hsf
     have Hst := Lib.hid hst
     clear hst hh hs2
     obtain ⟨g, cap, hvv, hgB, hglt, hgc, hgf, hgo⟩ := own_str ho (i := out.length - 1) (by omega)
     obtain ⟨rfl, -, rfl⟩ := Value.slice.inj hvv
     have hgB2 : w1.heap.size ≤ g := hgB
     have Hgo := Lib.hid hgo
     clear hvv hgo
     have hqx : out.getD (out.length - 1) ⟨#[]⟩ = out[out.length - 1]'(by omega) := by
      rw [List.getD_eq_getElem?_getD, List.getElem?_eq_getElem (by omega)]
      rfl
     have hysz := Hos.out _ (List.getElem_mem (show out.length - 1 < out.length by omega))
     have hgo2 := Hgo.out (out[out.length - 1]'(by omega) ++ (⟨#[59]⟩ : ByteArray))
     generalize out[out.length - 1]'(by omega) = y at hgc hqx hysz hgo2
     have hadd : addSemi out = out.set (out.length - 1) (y ++ (⟨#[59]⟩ : ByteArray)) := by unfold addSemi; rw [hqx]
     have Hadd := Lib.hid hadd
     have Hgo2 := Lib.hid hgo2
     clear hadd hgo2 hqx
     go_wp2_with fail
     refine hp.mono ?_
     rintro en w0 ⟨rfl, h0⟩
     obtain rfl := h0.symm
     clear h0 hp
     go_wp2_with fail
     refine hsf.mono ?_
     rintro en w0 ⟨rfl, h0⟩
     obtain rfl := h0.symm
     clear h0 hsf
     go_wp2_with fail
     have hc9 : Chg NoB w1 (wr.setCell ⟨g, out.length - 1, none⟩ (.string (y ++ (⟨#[59]⟩ : ByteArray)))) := hcr.setCell (p := ⟨g, out.length - 1, none⟩) (.inr hgB2) _
     refine ⟨⟨j + 1, out.set (out.length - 1) (y ++ (⟨#[59]⟩ : ByteArray)), some ⟨g, 0, none⟩, cp, hlt, by go_num, by rw [List.length_set], by rw [Hstep.out, Hst.out, Hadd.out], hc9, Hgo2.out, by rw [List.length_set]; omega, fun z hz => ?_⟩, by simp [intOf]; omega⟩
     rw [← Hadd.out] at hz
     have := addSemi_size Hos.out hn1 z hz
     omega
  ·have hje : j = ws.length := by omega
   have heq := Heq.out
   rw [hje, List.take_length] at heq
   have hne2 := Hne.out
   rw [heq] at hne2
   have Hfin := Lib.hid heq
   have hltI : ¬ (j : Int) < (ws.length : Int) := by omega
   have hrd := ho.reads (S' := fun y => w1.heap.size ≤ y) (fun _ h => h.elim) (fun y hy _ => hy) (by rw [List.length_map]; unfold maxLen; omega)
   obtain ⟨a', c', hv, hlen', hcap', hel'⟩ := reads_list hrd
   rw [List.length_map] at hv hlen' hel'
   obtain ⟨rfl, -, rfl⟩ := Value.slice.inj hv
   obtain ⟨ob, off, rfl, _, hobw, hE⟩ := hel' (by omega)
   have hcells : ∀ (q : Nat) y, out[q]? = some y → wr.cell? ⟨ob, off + q, none⟩ = some (.string y) := fun q y hq => by
    obtain ⟨cs, h5, h6, h7⟩ := hE.get q (strDt y) (by simp [hq])
    obtain ⟨rfl, _⟩ := h7
    have := h6 0 _ rfl
    simpa using this
   have Hcells := Lib.hid hcells
   clear heq hje hrd hel' hE hcells
   go_wp2_with fail
   refine (join_any ob off _ out wr hne2 Hcells.out hobw (by omega) hlen' (fun y hy => by have := Hos.out y hy; omega)).mono ?_
   rintro en w5 ⟨rfl, hc5⟩
   go_wp2_with fail
   go_ret
   rw [Hfin.out]
   exact ⟨rfl, (hc1.tr hcr).tr hc5⟩
mutual
def dropN (id : Int) : Nd → Nd
 | .mk i n r k s => .mk i n r k ((dropL id s).filter fun x => !delB id x)
def dropL (id : Int) : List Nd → List Nd
 | [] => []
 | n :: ns => dropN id n :: dropL id ns
end
theorem dropL_eq (id : Int) : ∀ l : List Nd, dropL id l = l.map (dropN id)
 | [] => rfl
 | n :: ns => by simp [dropL, dropL_eq id ns]
def RetUpd (B b o : Nat) (n : Nd) (F : List Nat) (n' : Nd) (w : World) (en : Ending) (w' : World) : Prop := en = .returned (.tuple #[]) ∧ ∃ F', Upd w B b o n F w' n' F'
def DropRel (id : Int) (B b o : Nat) (i : Int) (nm : ByteArray) (r k : Int) (s : List Nd) (F : List Nat) (w : World) (c : Nat) (vi : Value) (wr : World) : Prop :=
 ∃ (t : Nat) (F' : List Nat), t ≤ s.length ∧ vi = .int .i64 (t : Nat) ∧ Upd w B b o (.mk i nm r k s) F wr (.mk i nm r k (dropL id (s.take t) ++ s.drop t)) F' ∧ Blk wr c [.int .i64 id] 3
theorem drop_any (B : Nat) (id : Int) : ∀ (m : Nat) (b o : Nat) (n : Nd) (F : List Nat) (w : World), n.weigh ≤ m → PtN w B b o n F →
  Calls Tryz.prog 55 #[.pointer (some ⟨b, o, none⟩), .int .i64 id] w (RetUpd B b o n F (dropN id n) w) := by
 intro m
 induction m with
 | zero => intro b o n F w hm; cases n; simp [Nd.weigh] at hm
 | succ m ih =>
  intro b o n F w hm hp
  have Hih := Lib.hid ih
  clear ih
  obtain ⟨i, nm, r, k, s⟩ := n
  obtain ⟨v, htl, _, _, _, _, c4, _⟩ := hp.form
  obtain ⟨a, c, rfl, hlen, hcap⟩ := htl.form
  unfold maxLen at hcap
  simp only [Nd.weigh] at hm
  have hbl := lt_of_cell c4
  have hFl := Lib.hid hp.lt.2
  clear htl
  go_enter Tryz.func55, Tryz.ntmps55
  go_wp2_with fail
  generalize hw1 : World.alloc w _ = w1
  have hc1 : Chg NoB w w1 := by
   rw [← hw1]
   repeat (first | exact Chg.refl _ _ | apply Chg.alloc | apply Chg.drew)
  have hx1 : Blk w1 (w.heap.size) ([.int .i64 id]) 3 := by
   rw [← hw1]
   repeat (first | exact Blk.newAt (by first | rfl | (simp; done) | (simp; omega)) | apply Blk.alloc | apply Blk.drew)
  clear hw1
  have hp1 := hp.keep0 hc1
  have hbx : b ≠ w.heap.size := by have h1 : b < w.heap.size := hbl; omega
  have hxF : w.heap.size ∉ F := fun e => by have := (hFl.out _ e).2; omega
  have hx1l := hx1.lt
  go_loopw [10] (fun vi wr => DropRel id B b o i nm r k s F w1 w.heap.size vi wr) (fun vi _ => s.length - (intOf vi).toNat)
  case atStart => exact ⟨0, F, Nat.zero_le _, rfl, by simpa [dropL] using hp1.refl, hx1⟩
  case round =>
   obtain ⟨t, Fr, ht, rfl, hu, hx⟩ := hrel
   have Hu := Lib.hid hu
   have hxFr : w.heap.size ∉ Fr := fun e => by
    rcases hu.sub _ e with y | y
    ·exact hxF y
    ·omega
   have hxl := hx.lt
   by_cases hlt : t < s.length
   ·have hltI : (t : Int) < (s.length : Int) := by omega
    have hst : s[t]? = some s[t] := List.getElem?_eq_getElem hlt
    have hmem : s[t] ∈ s := List.getElem_mem hlt
    have hwj := Nd.weigh_mem hmem
    have hj : (dropL id (s.take t) ++ s.drop t)[t]? = some s[t] := by
     have hl : (dropL id (s.take t)).length = t := by rw [dropL_eq, List.length_map, List.length_take]; omega
     rw [List.getElem?_append_right (by omega), hl, Nat.sub_self, List.getElem?_drop, Nat.add_zero, hst]
    have hset : (dropL id (s.take t) ++ s.drop t).set t (dropN id s[t]) = dropL id (s.take (t + 1)) ++ s.drop (t + 1) := by
     have hl : (dropL id (s.take t)).length = t := by rw [dropL_eq, List.length_map, List.length_take]; omega
     rw [List.set_append_right _ _ (by omega), hl, Nat.sub_self, List.drop_eq_getElem_cons hlt, qE, List.take_succ_eq_append_getElem hlt, dropL_eq, dropL_eq, List.map_append, List.append_assoc]
     rfl
    have hlen2 : (dropL id (s.take t) ++ s.drop t).length = s.length := by rw [List.length_append, dropL_eq, List.length_map, List.length_take, List.length_drop]; omega
    generalize s[t] = q at hj hmem hwj hset hst
    obtain ⟨rb, cap, Fc, z4, h1, h2, h3, h4, hpc, hup⟩ := hu.pt'.child hj
    rw [hlen2] at z4 h1
    unfold maxLen at h2
    have Hup := Lib.hid hup
    have Hset := Lib.hid hset
    clear hup hset hj hst hu hlen2
    have x0 : wr.cell? ⟨w.heap.size, 0, none⟩ = some (.int .i64 id) := hx.cell 0
    go_wp2_with fail
    refine wp_region_n (fun w' => w'.cell? ⟨b, o + 4, none⟩ = some (.slice (some ⟨rb, 0, none⟩) s.length cap) ∧ w'.cell? ⟨w.heap.size, 0, none⟩ = some (.int .i64 id)) [] (by kernel_rfl) ?_ (fun hSh => ?_)
    ·exact ⟨z4, x0⟩
    refine n_from 0 ?_
    intro htk
    iterate 7
     refine n_tB (v := ?_) htk rfl (Or.inl ⟨by rfl, ?_⟩) ?_
     rotate_left 1
     ·(intro w' hSw; (try dsimp only at hSw); go_simp; try with_reducible rfl)
     clear htk
     intro htk
     simp only [Nat.reduceAdd] at htk
     simp only [Act.put, qA, qB, qC, qD, qE, qF]
    clear htk
    refine n_step 7 rfl (by kernel_rfl) ?_
    go_wp2_with fail
    have hd : Chg NoB wr wr.drew := (Chg.refl _ _).drew
    refine (Hih.out rb (t * 5) q Fc wr.drew (by omega) (hpc.keep0 hd)).mono ?_
    rintro en w2 ⟨rfl, Fc', hu2⟩
    have hu3 := hu2.ahead hd hpc nbE (fun _ _ => nbE) (fun _ e => nbE e)
    obtain ⟨F2, hu4⟩ := Hup.out _ _ _ hu3
    have hx2 := hx.keep hu3.chg (fun e => by
     rcases e with e | e
     ·exact hxFr (e ▸ h3)
     ·exact hxFr (h4 _ e))
    go_wp2_with fail
    have hbn : ∀ x, x = rb ∨ x ∈ Fc → x ≠ b := fun x hx e => Hu.out.out' (by
     rw [← e]
     rcases hx with hx | hx
     ·exact hx ▸ h3
     ·exact h4 x hx)
    refine ⟨fun _ => ⟨(hu3.chg.cell (p := ⟨b, o + 4, none⟩) (lt_of_cell z4) (fun e => hbn b e rfl)).trans z4, hx2.cell 0⟩, fun _ => ?_⟩
    refine n_done (by kernel_rfl) ?_
    go_wp2_with fail
    go_roundw
    case rel =>
     refine ⟨t + 1, F2, hlt, by go_num, ?_, hx2⟩
     rw [← Hset.out]
     exact Hu.out.trans hu4
    case measure => simp [intOf]; omega
   ·have hts : t = s.length := by omega
    have hltI : ¬ (t : Int) < (s.length : Int) := by omega
    have hu := Hu.out
    rw [hts, List.take_length, List.drop_length, List.append_nil] at hu
    obtain ⟨v5, ht5, _, _, _, _, d4, dfz⟩ := hu.pt'.form
    obtain ⟨a5, c5, rfl, hlen5, hcap5⟩ := ht5.form
    have hFr := Lib.hid hu.pt'.lt.2
    have hbr := lt_of_cell d4
    have Hu2 := Lib.hid hu
    have hdel := delF_any (dropL id s) id w.heap.size wr B _ Fr ht5 hu.nd' hxFr (hx.cell 0)
    clear hu hts Hu
    go_wp2_with fail
    refine hdel.mono ?_
    rintro en w3 ⟨v6, F6, rfl, ht6, hc6, hs6, hn6⟩
    obtain ⟨a6, c6, rfl, _, _⟩ := ht6.form
    have e4 := (hc6.cell (p := ⟨b, o + 4, none⟩) hbr Hu2.out.out').trans d4
    have e4f : w3.frozen? ⟨b, o + 4, none⟩ = false := (hc6.frozen (p := ⟨b, o + 4, none⟩) hbr Hu2.out.out').trans (dfz _)
    have hfin := Hu2.out.trans (Hu2.out.pt'.list hc6 ht6 (fun e => Hu2.out.out' (hs6 _ e)) hn6 (fun x hx => .inl (hs6 x hx)))
    have Hfin := Lib.hid (hfin.ahead hc1 hp nbE (fun _ _ => nbE) (fun _ e => nbE e))
    have hbr3 := lt_of_cell e4
    clear hfin hdel ht5 ht6 hn6 hs6 hc6 d4 dfz
    go_wp2_with fail
    refine bodyPost_ret (v := .tuple #[]) (by simp [results, Tryz.results55, go_sem]) rfl ?_
    exact ⟨rfl, F6, Hfin.out⟩
end Go.Proofs.YtgcmfpcgmkkobaaGreatDoor
