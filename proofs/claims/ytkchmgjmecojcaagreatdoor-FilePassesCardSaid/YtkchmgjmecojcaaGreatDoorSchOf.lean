/-
  shredcolref2.SchemaOf: what schema a text is.
-/
import Derived.Test.YtkchmgjmecojcaaGreatDoorRefNodes
import Derived.Test.YtkchmgjmecojcaaGreatDoorRead
import Derived.Test.YtkchmgjmecojcaaGreatDoorFindLaw
set_option linter.unusedVariables false
set_option maxHeartbeats 20000000
set_option maxRecDepth 100000
set_option linter.unusedSimpArgs false
namespace Go.Proofs.YtkchmgjmecojcaaGreatDoor
open Go.RowKit
theorem words_cells {w : World} {S : Nat → Prop} {W : List (List UInt8 × Int)} {a : Option Addr} {n c : Nat} (h : Reads w S (.list 2 (W.map wdDt)) [.slice a n c]) :
  n = W.length ∧ (W ≠ [] → ∃ b off, a = some ⟨b, off, none⟩ ∧ b < w.heap.size ∧ ∀ (j : Nat) (x : List UInt8 × Int), W[j]? = some x → w.cell? ⟨b, off + j * 2, none⟩ = some (.string ⟨x.1.toArray⟩) ∧ w.cell? ⟨b, off + j * 2 + 1, none⟩ = some (.int .i64 x.2)) := by
 obtain ⟨a', c', h1, h2, h3, h4⟩ := reads_list h
 simp only [List.length_map] at h1 h2 h4
 obtain ⟨rfl, rfl, rfl⟩ := Value.slice.inj h1
 refine ⟨rfl, fun hne => ?_⟩
 obtain ⟨b, off, ha, hb, hlt, hE⟩ := h4 (fun e => hne (List.eq_nil_of_length_eq_zero e))
 refine ⟨b, off, ha, hlt, fun j x hj => ?_⟩
 obtain ⟨cs, h5, h6, h7⟩ := hE.get j (wdDt x) (by simp [hj])
 obtain ⟨c1, r1, rfl, ⟨rfl, _⟩, c2, r2, rfl, ⟨rfl, _⟩, rfl⟩ := h7
 exact ⟨h6 0 _ rfl, h6 1 _ rfl⟩
theorem words_ne (T : Nat) (rest : List UInt8) : wordsL T rest ≠ [] := by
 obtain ⟨l, hl⟩ := words_head T rest
 rw [hl]
 exact List.cons_ne_nil _ _
def faultV (c a : Int) : Value := .agg #[.int .i64 c, .int .i64 a]
theorem bare_any (c : Int) (w : World) : Calls Tryz.prog 67 #[.int .i64 c] w (RetV (faultV c (-1)) w) := by
 go_enter Tryz.func67, Tryz.ntmps67
 go_wp2_with fail
 generalize hw1 : w.alloc _ = w1
 have hc1 : Chg NoB w w1 := by
  rw [← hw1]
  repeat (first | exact Chg.refl _ _ | apply Chg.alloc | apply Chg.drew)
 have hb1 : Blk w1 (w.heap.size) ([.int .i64 c, .int .i64 (-1)]) 94 := by
  rw [← hw1]
  repeat (first | exact Blk.newAt (by first | rfl | (simp; done) | (simp; omega)) | apply Blk.alloc | apply Blk.drew)
 clear hw1
 have n0 : w1.cell? ⟨w.heap.size, 0, none⟩ = some (.int .i64 c) := hb1.cell 0
 have n1 : w1.cell? ⟨w.heap.size, 1, none⟩ = some (.int .i64 (-1)) := hb1.cell 1
 refine bodyPost_ret (v := .agg #[.int .i64 c, .int .i64 (-1)]) (by simp [results, Tryz.results67, go_sem, n0, n1]) rfl ?_
 exact ⟨rfl, hc1⟩
theorem fine_any (w : World) : Calls Tryz.prog 73 #[] w (RetV (faultV 0 (-1)) w) := by
 go_enter Tryz.func73, Tryz.ntmps73
 go_wp2_with fail
 generalize hw1 : w.alloc _ = w1
 have hc1 : Chg NoB w w1 := by
  rw [← hw1]
  repeat (first | exact Chg.refl _ _ | apply Chg.alloc | apply Chg.drew)
 have hb1 : Blk w1 (w.heap.size) ([.int .i64 0, .int .i64 (-1)]) 94 := by
  rw [← hw1]
  repeat (first | exact Blk.newAt (by first | rfl | (simp; done) | (simp; omega)) | apply Blk.alloc | apply Blk.drew)
 clear hw1
 have n0 : w1.cell? ⟨w.heap.size, 0, none⟩ = some (.int .i64 0) := hb1.cell 0
 have n1 : w1.cell? ⟨w.heap.size, 1, none⟩ = some (.int .i64 (-1)) := hb1.cell 1
 refine bodyPost_ret (v := .agg #[.int .i64 0, .int .i64 (-1)]) (by simp [results, Tryz.results73, go_sem, n0, n1]) rfl ?_
 exact ⟨rfl, hc1⟩
def RetSO (s : ByteArray) (p : RR) (w : World) (en : Ending) (w' : World) : Prop :=
 Chg NoB w w' ∧ match p with
 | .ok n => ∃ cs, en = .returned (.tuple #[.agg cs.toArray, faultV 0 (-1)]) ∧ Reads w' (fun b => w.heap.size ≤ b) n.dt cs
 | .er e => en = .returned (.tuple #[zeroNode, faultV (errNum (some e)) (-1)])
 | .bad e q => en = .returned (.tuple #[zeroNode, faultV (errNum (some e)) ((s.size : Int) - (q.length : Int))])
def lastS (T : Nat) (s : PSt) : PSt := if tok s.rest = [] then s else s.fail T 1
def readRR (l : List Nd) : RR := match validF (.mk 0 rootName 1 0 l) with
 | none => .ok (.mk 0 rootName 1 0 l)
 | some e => .er e
theorem last_spec {T : Nat} {rest : List UInt8} {l : List Dt} {st : PSt} {R : RR} (h : PDone T 2 rest l st)
  (hR : R = match parseL 2 rest with
    | .bad e q => .bad e q
    | .ok l q => if tok q = [] then readRR l else .bad .text q) :
  (0 < (lastS T st).code ∧ ∃ e q, R = .bad e q ∧ (lastS T st).code = errNum (some e) ∧ (lastS T st).at' = (T : Int) - (q.length : Int)) ∨
  ((lastS T st).code = 0 ∧ ∃ nds : List Nd, l = nds.map Nd.dt ∧ R = readRR nds ∧ parseL 2 rest = .ok nds st.rest) := by
 rcases h with ⟨h0, nds, rfl, hp⟩ | ⟨h0, e, q, hp, hc, ha⟩
 ·rw [hp] at hR
  simp only [] at hR
  by_cases ht : tok st.rest = []
  ·rw [if_pos ht] at hR
   unfold lastS
   rw [if_pos ht]
   exact .inr ⟨h0, nds, rfl, hR, hp⟩
  ·rw [if_neg ht] at hR
   unfold lastS PSt.fail
   rw [if_neg ht, if_pos h0]
   exact .inl ⟨Int.one_pos, .text, st.rest, hR, rfl, rfl⟩
 ·rw [hp] at hR
  have hl : lastS T st = st := by
   unfold lastS PSt.fail
   split
   ·rfl
   ·first | rfl | rw [if_neg h0]
  rw [hl]
  refine .inl ⟨?_, e, q, hR, hc, ha⟩
  rw [hc]
  cases e <;> decide
theorem schemaOf_any (s : ByteArray) (w : World) (hbig : s.size ≤ 9223372036854775807) :
  Calls Tryz.prog 37 #[.string s] w (RetSO s (readF s) w) := by
 by_cases h8 : 8000 < s.size
 ·have hr : readF s = .er .bound := by unfold readF; rw [if_pos h8]
  have Hr := Lib.hid hr
  have h8' : (8000 : Int) < s.size := by omega
  clear hr
  go_enter Tryz.func37, Tryz.ntmps37
  go_wp2_with fail
  generalize hw1 : (w.alloc _).alloc _ = w1
  have hc1 : Chg NoB w w1 := by
   rw [← hw1]
   repeat (first | exact Chg.refl _ _ | apply Chg.alloc | apply Chg.drew)
  have hb1 : Blk w1 (w.heap.size) (ndCells 0 ⟨#[]⟩ 0 0 (.slice none 0 0)) 33 := by
   rw [← hw1]
   repeat (first | exact Blk.newAt (by first | rfl | (simp; done) | (simp; omega)) | apply Blk.alloc | apply Blk.drew)
  have hf1 : Blk w1 (w.heap.size + 1) ([.int .i64 0, .int .i64 0]) 94 := by
   rw [← hw1]
   repeat (first | exact Blk.newAt (by first | rfl | (simp; done) | (simp; omega)) | apply Blk.alloc | apply Blk.drew)
  clear hw1
  refine (bare_any 2 w1).mono ?_
  rintro en w2 ⟨rfl, hc2⟩
  have hb2 := hb1.keep hc2 nbE
  have hf2 := hf1.keep hc2 nbE
  have hc02 := hc1.tr hc2
  unfold faultV
  have x0 : w2.cell? ⟨w.heap.size, 0, none⟩ = some (.int .i64 (0)) := hb2.cell 0
  have x1 : w2.cell? ⟨w.heap.size, 1, none⟩ = some (.string ⟨#[]⟩) := hb2.cell 1
  have x2 : w2.cell? ⟨w.heap.size, 2, none⟩ = some (.int .i64 (0)) := hb2.cell 2
  have x3 : w2.cell? ⟨w.heap.size, 3, none⟩ = some (.int .i64 (0)) := hb2.cell 3
  have x4 : w2.cell? ⟨w.heap.size, 4, none⟩ = some (.slice none 0 0) := hb2.cell 4
  have z0 : w2.frozen? ⟨w.heap.size, 0, none⟩ = false := hb2.free 0
  have z1 : w2.frozen? ⟨w.heap.size, 1, none⟩ = false := hb2.free 1
  have z2 : w2.frozen? ⟨w.heap.size, 2, none⟩ = false := hb2.free 2
  have z3 : w2.frozen? ⟨w.heap.size, 3, none⟩ = false := hb2.free 3
  have z4 : w2.frozen? ⟨w.heap.size, 4, none⟩ = false := hb2.free 4
  have r0 : w2.cell? ⟨w.heap.size + 1, 0, none⟩ = some (.int .i64 0) := hf2.cell 0
  have r1 : w2.cell? ⟨w.heap.size + 1, 1, none⟩ = some (.int .i64 0) := hf2.cell 1
  have r2 : w2.frozen? ⟨w.heap.size + 1, 0, none⟩ = false := hf2.free 0
  have r3 : w2.frozen? ⟨w.heap.size + 1, 1, none⟩ = false := hf2.free 1
  go_wp2_with fail
  have hne9 : w.heap.size + 1 ≠ w.heap.size := by omega
  have hne8 : w.heap.size ≠ w.heap.size + 1 := by omega
  have hb9 := ((store5 hb2 (.int .i64 0) (.string ⟨#[]⟩) (.int .i64 0) (.int .i64 0) (.slice none 0 0)).other (p := ⟨w.heap.size + 1, 0, none⟩) hne8 (.int .i64 (2))).other (p := ⟨w.heap.size + 1, 1, none⟩) hne8 (.int .i64 (-1))
  have hf9 := ((store5_other hf2 hne9 (.int .i64 0) (.string ⟨#[]⟩) (.int .i64 0) (.int .i64 0) (.slice none 0 0)).set 0 (.int .i64 (2))).set 1 (.int .i64 (-1))
  have hc9 := ((hc02.trans' (store5_chg w2 w.heap.size (.int .i64 0) (.string ⟨#[]⟩) (.int .i64 0) (.int .i64 0) (.slice none 0 0)) (fun b e => Nat.le_of_eq (Eq.symm e))).setCell (p := ⟨w.heap.size + 1, 0, none⟩) (.inr (Nat.le_succ _)) (.int .i64 (2))).setCell (p := ⟨w.heap.size + 1, 1, none⟩) (.inr (Nat.le_succ _)) (.int .i64 (-1))
  generalize World.setCell (World.setCell (World.setCell (World.setCell (World.setCell (World.setCell (World.setCell w2 ⟨w.heap.size, 0, none⟩ (.int .i64 0)) ⟨w.heap.size, 1, none⟩ (.string ⟨#[]⟩)) ⟨w.heap.size, 2, none⟩ (.int .i64 0)) ⟨w.heap.size, 3, none⟩ (.int .i64 0)) ⟨w.heap.size, 4, none⟩ (.slice none 0 0)) ⟨w.heap.size + 1, 0, none⟩ (.int .i64 (2))) ⟨w.heap.size + 1, 1, none⟩ (.int .i64 (-1)) = w9 at hb9 hf9 hc9 ⊢
  have n0 : w9.cell? ⟨w.heap.size, 0, none⟩ = some (.int .i64 (0)) := hb9.cell 0
  have n1 : w9.cell? ⟨w.heap.size, 1, none⟩ = some (.string ⟨#[]⟩) := hb9.cell 1
  have n2 : w9.cell? ⟨w.heap.size, 2, none⟩ = some (.int .i64 (0)) := hb9.cell 2
  have n3 : w9.cell? ⟨w.heap.size, 3, none⟩ = some (.int .i64 (0)) := hb9.cell 3
  have n4 : w9.cell? ⟨w.heap.size, 4, none⟩ = some (.slice none 0 0) := hb9.cell 4
  have m0 : w9.cell? ⟨w.heap.size + 1, 0, none⟩ = some (.int .i64 (2)) := hf9.cell 0
  have m1 : w9.cell? ⟨w.heap.size + 1, 1, none⟩ = some (.int .i64 (-1)) := hf9.cell 1
  refine bodyPost_ret (v := .tuple #[zeroNode, faultV (2) (-1)]) (by simp [results, Tryz.results37, go_sem, n0, n1, n2, n3, n4, m0, m1, zeroNode, faultV]) rfl ?_
  rw [Hr.out]
  exact ⟨hc9, rfl⟩
 ·have h8' : ¬ (8000 : Int) < s.size := by omega
  have hs : s.size ≤ 8000 := by omega
  have hspec : readF s = match parseL 2 (skipW s.data.toList) with
    | .bad e q => .bad e q
    | .ok l q => if tok q = [] then readRR l else .bad .text q := by
   unfold readF
   rw [if_neg h8]
   rfl
  have Hspec := Lib.hid hspec
  clear hspec
  have hrl : (skipW s.data.toList).length ≤ s.size := by
   have h1 := (List.dropWhile_sublist (([32, 10] : List UInt8).contains ·) (l := s.data.toList)).length_le
   unfold skipW
   rw [length_data] at h1
   exact h1
  go_enter Tryz.func37, Tryz.ntmps37
  go_wp2_with fail
  generalize hw1 : (w.alloc _).alloc _ = w1
  have hc1 : Chg NoB w w1 := by
   rw [← hw1]
   repeat (first | exact Chg.refl _ _ | apply Chg.alloc | apply Chg.drew)
  have hb1 : Blk w1 (w.heap.size) (ndCells 0 ⟨#[]⟩ 0 0 (.slice none 0 0)) 33 := by
   rw [← hw1]
   repeat (first | exact Blk.newAt (by first | rfl | (simp; done) | (simp; omega)) | apply Blk.alloc | apply Blk.drew)
  have hf1 : Blk w1 (w.heap.size + 1) ([.int .i64 0, .int .i64 0]) 94 := by
   rw [← hw1]
   repeat (first | exact Blk.newAt (by first | rfl | (simp; done) | (simp; omega)) | apply Blk.alloc | apply Blk.drew)
  clear hw1
  refine (wordsOf_any s w1 hs).mono ?_
  rintro en w2 ⟨a2, c2, rfl, hrd2, hc2⟩
  rw [List.length_map] at hrd2 ⊢
  obtain ⟨-, hwc⟩ := words_cells hrd2
  obtain ⟨wb, off, rfl, hwb, hcells⟩ := hwc (words_ne _ _)
  have hwlen := wordsL_len s.size _ _ (Nat.le_refl (skipW s.data.toList).length)
  have hdr : (wordsL s.size (skipW s.data.toList)).drop 0 = wordsL s.size (skipW s.data.toList) := rfl
  generalize skipW s.data.toList = rest at *
  obtain ⟨W, hW⟩ : ∃ W, W = wordsL s.size rest := ⟨_, rfl⟩
  rw [← hW] at hcells hwlen hrd2 ⊢
  rw [← hW, hW] at hdr
  have Hdr := Lib.hid hdr
  have HW := Lib.hid hW
  have Hcells := Lib.hid hcells
  clear hdr hW hcells hrd2
  have hb2 := hb1.keep hc2 nbE
  have hf2 := hf1.keep hc2 nbE
  have hc02 := hc1.tr hc2
  have hlt2 := hf2.lt
  clear hwc
  go_wp2_with fail
  generalize hw3 : w2.alloc _ = w3
  have hc3 : Chg NoB w2 w3 := by
   rw [← hw3]
   repeat (first | exact Chg.refl _ _ | apply Chg.alloc | apply Chg.drew)
  have hp3 : Blk w3 (w2.heap.size) ([.slice (some ⟨wb, off, none⟩) W.length c2, .int .i64 ((0 : Nat) : Int), .int .i64 0, .int .i64 0]) 160 := by
   rw [← hw3]
   repeat (first | exact Blk.newAt (by first | rfl | (simp; done) | (simp; omega)) | apply Blk.alloc | apply Blk.drew)
  clear hw3
  have hb3 := hb2.keep hc3 nbE
  have hf3 := hf2.keep hc3 nbE
  have hc03 := hc02.tr hc3
  have hP3 : Prs w2.heap.size s.size (.slice (some ⟨wb, off, none⟩) W.length c2) W ⟨rest, 0, 0⟩ w3 := by
   refine ⟨⟨0, hp3, by rw [HW.out]; exact Hdr.out⟩, ⟨wb, off, c2, rfl, Nat.ne_of_lt hwb, hwb, fun j x hx => ?_⟩, by omega⟩
   obtain ⟨e1, e2⟩ := Hcells.out j x hx
   exact ⟨(hc3.cell (p := ⟨wb, off + j * 2, none⟩) hwb nbE).trans e1, (hc3.cell (p := ⟨wb, off + j * 2 + 1, none⟩) hwb nbE).trans e2⟩
  clear Hcells HW Hdr hp3 hc3 hc2 hb2 hf2 hb1 hf1
  have hcz := hc02.size
  generalize w2.heap.size = b at *
  refine (pnodes_any b s.size _ W 5 2 ⟨rest, 0, 0⟩ w3 (by omega) (by omega) (by omega) rfl (by show rest.length ≤ 8000; omega) hP3).mono ?_
  rintro en w4 ⟨v4, l4, st, rfl, ho4, hP4, hc4, hdone, hsl, hll⟩
  have hb4 := hb3.keep hc4 (fun e => by have e : w.heap.size = b := e; omega)
  have hf4 := hf3.keep hc4 (fun e => by have e : w.heap.size + 1 = b := e; omega)
  have hsz3 := hc03.size
  have hc04 : Chg NoB w w4 := hc03.trans' hc4 (by intro x e; have e : x = b := e; omega)
  have hbw3 := hP3.lt
  have hlast := last_spec hdone Hspec.out
  have Hlast := Lib.hid hlast
  obtain ⟨a4, cap4, rfl⟩ := ho4.form
  clear hdone hlast Hspec hc4 hb3 hf3 hP3
  go_wp2_with fail
  refine (word_any hP4).mono ?_
  rintro en w5 ⟨rfl, hc5⟩
  have hP5 := hP4.keep0 hc5
  go_upto_if 21 with fail
  go_cut [] (fun wx => Prs b s.size (.slice (some ⟨wb, off, none⟩) W.length c2) W (lastS s.size st) wx ∧ Chg (OneB b) w4 wx)
  case first =>
   have hc5' : Chg (OneB b) w4 w5 := hc5.mono (fun _ _ e => nbE e)
   by_cases ht : tok st.rest = []
   ·have hl : lastS s.size st = st := if_pos ht
    have Hl := Lib.hid hl
    have ht' : (tok st.rest).isEmpty = true := by rw [ht]; rfl
    clear ht hl
    rw [ht', Bool.not_true]
    go_wp2_with fail
    go_meet
    rw [Hl.out]
    exact ⟨hP5, hc5'⟩
   ·have hl : lastS s.size st = st.fail s.size 1 := if_neg ht
    have Hl := Lib.hid hl
    have ht' : (tok st.rest).isEmpty = false := by simpa using ht
    clear ht hl
    rw [ht', Bool.not_false]
    go_wp2_with fail
    refine (fail_any 1 hP5).mono ?_
    rintro en w6 ⟨rfl, hP6, hc6⟩
    go_wp2_with fail
    go_meet
    rw [Hl.out]
    exact ⟨hP6, hc5'.trans hc6 (fun _ e => .inl e)⟩
  case rest =>
   obtain ⟨hP6, hc6⟩ := hcut
   clear hP4 hP5 hc5
   have hc06 : Chg NoB w wc := hc04.trans' hc6 (by intro x e; have e : x = b := e; omega)
   have hb6 := hb4.keep hc6 (fun e => by have e : w.heap.size = b := e; omega)
   have hf6 := hf4.keep hc6 (fun e => by have e : w.heap.size + 1 = b := e; omega)
   have hb3 := hP6.lt
   have ho6 := ho4.keep hc6 (fun x hx e => by have e : x = b := e; have hx : w3.heap.size ≤ x := hx; omega) (fun x hx e => by have e : x = b := e; have := (ho4.block x hx).1; omega)
   clear hb4 hf4 ho4 hc04 hc6
   have cc := hP6.code
   have ca : wc.cell? ⟨b, 3, none⟩ = some (.int .i64 (lastS s.size st).at') := by
    obtain ⟨k, h1, _⟩ := hP6.blk
    exact h1.cell 3
   clear hP6
   rcases Hlast.out with ⟨hpos, e, q, hR, hce, hae⟩ | ⟨hz, nds, hl4, hR, hpar⟩
   ·have HR := Lib.hid hR
    have hpos' := hpos
    rw [hce] at cc hpos'
    rw [hae] at ca
    clear hR hce hae Hlast hpos
    generalize hne : errNum (some e) = ne at cc hpos'
    have Hne := Lib.hid hne
    clear hne
    have hqi : ∃ z : Int, (s.size : Int) - (q.length : Int) = z := ⟨_, rfl⟩
    obtain ⟨z, hz⟩ := hqi
    have Hz := Lib.hid hz
    rw [hz] at ca
    clear hz
    have x0 : wc.cell? ⟨w.heap.size, 0, none⟩ = some (.int .i64 (0)) := hb6.cell 0
    have x1 : wc.cell? ⟨w.heap.size, 1, none⟩ = some (.string ⟨#[]⟩) := hb6.cell 1
    have x2 : wc.cell? ⟨w.heap.size, 2, none⟩ = some (.int .i64 (0)) := hb6.cell 2
    have x3 : wc.cell? ⟨w.heap.size, 3, none⟩ = some (.int .i64 (0)) := hb6.cell 3
    have x4 : wc.cell? ⟨w.heap.size, 4, none⟩ = some (.slice none 0 0) := hb6.cell 4
    have z0 : wc.frozen? ⟨w.heap.size, 0, none⟩ = false := hb6.free 0
    have z1 : wc.frozen? ⟨w.heap.size, 1, none⟩ = false := hb6.free 1
    have z2 : wc.frozen? ⟨w.heap.size, 2, none⟩ = false := hb6.free 2
    have z3 : wc.frozen? ⟨w.heap.size, 3, none⟩ = false := hb6.free 3
    have z4 : wc.frozen? ⟨w.heap.size, 4, none⟩ = false := hb6.free 4
    have r0 : wc.cell? ⟨w.heap.size + 1, 0, none⟩ = some (.int .i64 0) := hf6.cell 0
    have r1 : wc.cell? ⟨w.heap.size + 1, 1, none⟩ = some (.int .i64 0) := hf6.cell 1
    have r2 : wc.frozen? ⟨w.heap.size + 1, 0, none⟩ = false := hf6.free 0
    have r3 : wc.frozen? ⟨w.heap.size + 1, 1, none⟩ = false := hf6.free 1
    go_wp2_with fail
    refine wp_region_n (fun w' => w'.cell? ⟨b, 2, none⟩ = some (.int .i64 ne) ∧ w'.cell? ⟨b, 3, none⟩ = some (.int .i64 z)) [6] (by kernel_rfl) ?_ (fun hSh => ?_)
    ·exact ⟨cc, ca⟩
    refine n_from 0 ?_
    intro htk
    iterate 5
     refine n_tB (v := ?_) htk rfl (Or.inl ⟨by rfl, ?_⟩) ?_
     rotate_left 1
     ·(intro w' hSw; (try dsimp only at hSw); go_simp; try with_reducible rfl)
     clear htk
     intro htk
     simp only [Nat.reduceAdd] at htk
     simp only [Act.put, qA, qB, qC, qD, qE, qF]
    clear htk
    refine n_step 5 rfl (by kernel_rfl) ?_
    go_wp2_with fail
    have hS5 : ∀ (j : Nat) (v : Value), wc.cell? ⟨b, j, none⟩ = some v → _ = some v := fun j v hv => ((store5_chg wc w.heap.size (.int .i64 0) (.string ⟨#[]⟩) (.int .i64 0) (.int .i64 0) (.slice none 0 0)).drew.cell (p := ⟨b, j, none⟩) hb3 (fun e => by have e : b = w.heap.size := e; omega)).trans hv
    refine ⟨fun _ => ⟨hS5 2 _ cc, hS5 3 _ ca⟩, fun hSk => ?_⟩
    replace hSk := hSk (by rfl)
    clear hS5
    refine n_step 6 rfl (by kernel_rfl) ?_
    go_wp2_with fail
    refine ⟨fun hx => absurd hx (by decide), fun _ => ?_⟩
    refine n_done (by kernel_rfl) ?_
    go_wp2_with fail
    have hne9 : w.heap.size + 1 ≠ w.heap.size := by omega
    have hne8 : w.heap.size ≠ w.heap.size + 1 := by omega
    have hb9 := ((store5 hb6 (.int .i64 0) (.string ⟨#[]⟩) (.int .i64 0) (.int .i64 0) (.slice none 0 0)).other (p := ⟨w.heap.size + 1, 0, none⟩) hne8 (.int .i64 (ne))).other (p := ⟨w.heap.size + 1, 1, none⟩) hne8 (.int .i64 (z))
    have hf9 := ((store5_other hf6 hne9 (.int .i64 0) (.string ⟨#[]⟩) (.int .i64 0) (.int .i64 0) (.slice none 0 0)).set 0 (.int .i64 (ne))).set 1 (.int .i64 (z))
    have hc9 := ((hc06.trans' (store5_chg wc w.heap.size (.int .i64 0) (.string ⟨#[]⟩) (.int .i64 0) (.int .i64 0) (.slice none 0 0)) (fun b e => Nat.le_of_eq (Eq.symm e))).setCell (p := ⟨w.heap.size + 1, 0, none⟩) (.inr (Nat.le_succ _)) (.int .i64 (ne))).setCell (p := ⟨w.heap.size + 1, 1, none⟩) (.inr (Nat.le_succ _)) (.int .i64 (z))
    generalize World.setCell (World.setCell (World.setCell (World.setCell (World.setCell (World.setCell (World.setCell wc ⟨w.heap.size, 0, none⟩ (.int .i64 0)) ⟨w.heap.size, 1, none⟩ (.string ⟨#[]⟩)) ⟨w.heap.size, 2, none⟩ (.int .i64 0)) ⟨w.heap.size, 3, none⟩ (.int .i64 0)) ⟨w.heap.size, 4, none⟩ (.slice none 0 0)) ⟨w.heap.size + 1, 0, none⟩ (.int .i64 (ne))) ⟨w.heap.size + 1, 1, none⟩ (.int .i64 (z)) = w9 at hb9 hf9 hc9 ⊢
    have n0 : w9.cell? ⟨w.heap.size, 0, none⟩ = some (.int .i64 (0)) := hb9.cell 0
    have n1 : w9.cell? ⟨w.heap.size, 1, none⟩ = some (.string ⟨#[]⟩) := hb9.cell 1
    have n2 : w9.cell? ⟨w.heap.size, 2, none⟩ = some (.int .i64 (0)) := hb9.cell 2
    have n3 : w9.cell? ⟨w.heap.size, 3, none⟩ = some (.int .i64 (0)) := hb9.cell 3
    have n4 : w9.cell? ⟨w.heap.size, 4, none⟩ = some (.slice none 0 0) := hb9.cell 4
    have m0 : w9.cell? ⟨w.heap.size + 1, 0, none⟩ = some (.int .i64 (ne)) := hf9.cell 0
    have m1 : w9.cell? ⟨w.heap.size + 1, 1, none⟩ = some (.int .i64 (z)) := hf9.cell 1
    refine bodyPost_ret (v := .tuple #[zeroNode, faultV (ne) (z)]) (by simp [results, Tryz.results37, go_sem, n0, n1, n2, n3, n4, m0, m1, zeroNode, faultV]) rfl ?_
    rw [HR.out]
    exact ⟨hc9.drew, by rw [← Hne.out, ← Hz.out]⟩
   ·subst hl4
    rw [List.length_map] at ho6 ⊢
    obtain ⟨hoks, hll2⟩ := parse_ok rest.length 2 rest nds st.rest (Nat.le_refl _) (by omega) hpar
    rw [hz] at cc
    have HR := Lib.hid hR
    clear hR hpar Hlast hz ca
    go_wp2_with fail
    generalize hw7 : wc.alloc _ = w7
    have hc7 : Chg NoB wc w7 := by
     rw [← hw7]
     repeat (first | exact Chg.refl _ _ | apply Chg.alloc | apply Chg.drew)
    have hroot7 : Blk w7 (wc.heap.size) ([.int .i64 0, .string ⟨#[114, 111, 111, 116]⟩, .int .i64 1, .int .i64 0, .slice a4 nds.length cap4]) 33 := by
     rw [← hw7]
     repeat (first | exact Blk.newAt (by first | rfl | (simp; done) | (simp; omega)) | apply Blk.alloc | apply Blk.drew)
    clear hw7
    have hrd0 := (ho6.reads (S' := fun x => w3.heap.size ≤ x) (fun _ h => h) (fun _ h _ => h) ho6.len).lt
    rw [← Nd.dts_eq] at hrd0
    have hnd : Reads w7 (fun x => w3.heap.size ≤ x ∧ x < wc.heap.size) (Nd.dt (.mk 0 rootName 1 0 nds)) [.int .i64 0, .string ⟨#[114, 111, 111, 116]⟩, .int .i64 1, .int .i64 0, .slice a4 nds.length cap4] := reads_nd.2 ⟨_, rfl, hrd0.chg0 hc7⟩
    have hok : (Nd.mk 0 rootName 1 0 nds).ok := ⟨⟨by decide, by decide⟩, by decide, ⟨by decide, by decide⟩, ⟨by decide, by decide⟩, by unfold reach; omega, hoks⟩
    refine (err_any (.mk 0 rootName 1 0 nds) w7 _ _ hnd hok).mono ?_
    rintro en w8 ⟨rfl, hc8⟩
    have hc78 := hc7.tr hc8
    have hb8 := hb6.keep hc78 nbE
    have hf8 := hf6.keep hc78 nbE
    have hroot8 := hroot7.keep hc8 nbE
    have hc08 := hc06.tr hc78
    have hnd8 := hnd.chg0 hc8
    have hsz6 := hc06.size
    have hbl := hb6.lt
    have hfl := hf6.lt
    clear hnd hrd0 ho6 hroot7 hb6 hf6 hc7 hc8 hc78
    have x0 : w8.cell? ⟨w.heap.size, 0, none⟩ = some (.int .i64 (0)) := hb8.cell 0
    have x1 : w8.cell? ⟨w.heap.size, 1, none⟩ = some (.string ⟨#[]⟩) := hb8.cell 1
    have x2 : w8.cell? ⟨w.heap.size, 2, none⟩ = some (.int .i64 (0)) := hb8.cell 2
    have x3 : w8.cell? ⟨w.heap.size, 3, none⟩ = some (.int .i64 (0)) := hb8.cell 3
    have x4 : w8.cell? ⟨w.heap.size, 4, none⟩ = some (.slice none 0 0) := hb8.cell 4
    have z0 : w8.frozen? ⟨w.heap.size, 0, none⟩ = false := hb8.free 0
    have z1 : w8.frozen? ⟨w.heap.size, 1, none⟩ = false := hb8.free 1
    have z2 : w8.frozen? ⟨w.heap.size, 2, none⟩ = false := hb8.free 2
    have z3 : w8.frozen? ⟨w.heap.size, 3, none⟩ = false := hb8.free 3
    have z4 : w8.frozen? ⟨w.heap.size, 4, none⟩ = false := hb8.free 4
    have r0 : w8.cell? ⟨w.heap.size + 1, 0, none⟩ = some (.int .i64 0) := hf8.cell 0
    have r1 : w8.cell? ⟨w.heap.size + 1, 1, none⟩ = some (.int .i64 0) := hf8.cell 1
    have r2 : w8.frozen? ⟨w.heap.size + 1, 0, none⟩ = false := hf8.free 0
    have r3 : w8.frozen? ⟨w.heap.size + 1, 1, none⟩ = false := hf8.free 1
    unfold readRR at HR
    cases hv : validF (.mk 0 rootName 1 0 nds) with
    | some e =>
     rw [hv] at HR
     obtain ⟨ne, hne⟩ : ∃ x, x = errNum (some e) := ⟨_, rfl⟩
     have hpos : 0 < ne := by rw [hne]; cases e <;> decide
     rw [← hne]
     have Hne := Lib.hid hne
     clear hne hv
     go_wp2_with fail
     refine (bare_any ne w8).mono ?_
     rintro en w9 ⟨rfl, hc9⟩
     clear x0 x1 x2 x3 x4 z0 z1 z2 z3 z4 r0 r1 r2 r3
     have hb9 := hb8.keep hc9 nbE
     have hf9 := hf8.keep hc9 nbE
     have hc09 := hc08.tr hc9
     unfold faultV
     have x0 : w9.cell? ⟨w.heap.size, 0, none⟩ = some (.int .i64 (0)) := hb9.cell 0
     have x1 : w9.cell? ⟨w.heap.size, 1, none⟩ = some (.string ⟨#[]⟩) := hb9.cell 1
     have x2 : w9.cell? ⟨w.heap.size, 2, none⟩ = some (.int .i64 (0)) := hb9.cell 2
     have x3 : w9.cell? ⟨w.heap.size, 3, none⟩ = some (.int .i64 (0)) := hb9.cell 3
     have x4 : w9.cell? ⟨w.heap.size, 4, none⟩ = some (.slice none 0 0) := hb9.cell 4
     have z0 : w9.frozen? ⟨w.heap.size, 0, none⟩ = false := hb9.free 0
     have z1 : w9.frozen? ⟨w.heap.size, 1, none⟩ = false := hb9.free 1
     have z2 : w9.frozen? ⟨w.heap.size, 2, none⟩ = false := hb9.free 2
     have z3 : w9.frozen? ⟨w.heap.size, 3, none⟩ = false := hb9.free 3
     have z4 : w9.frozen? ⟨w.heap.size, 4, none⟩ = false := hb9.free 4
     have r0 : w9.cell? ⟨w.heap.size + 1, 0, none⟩ = some (.int .i64 0) := hf9.cell 0
     have r1 : w9.cell? ⟨w.heap.size + 1, 1, none⟩ = some (.int .i64 0) := hf9.cell 1
     have r2 : w9.frozen? ⟨w.heap.size + 1, 0, none⟩ = false := hf9.free 0
     have r3 : w9.frozen? ⟨w.heap.size + 1, 1, none⟩ = false := hf9.free 1
     go_wp2_with fail
     have hne9 : w.heap.size + 1 ≠ w.heap.size := by omega
     have hne8 : w.heap.size ≠ w.heap.size + 1 := by omega
     have hb9 := ((store5 hb9 (.int .i64 0) (.string ⟨#[]⟩) (.int .i64 0) (.int .i64 0) (.slice none 0 0)).other (p := ⟨w.heap.size + 1, 0, none⟩) hne8 (.int .i64 (ne))).other (p := ⟨w.heap.size + 1, 1, none⟩) hne8 (.int .i64 (-1))
     have hf9 := ((store5_other hf9 hne9 (.int .i64 0) (.string ⟨#[]⟩) (.int .i64 0) (.int .i64 0) (.slice none 0 0)).set 0 (.int .i64 (ne))).set 1 (.int .i64 (-1))
     have hc9 := ((hc09.trans' (store5_chg w9 w.heap.size (.int .i64 0) (.string ⟨#[]⟩) (.int .i64 0) (.int .i64 0) (.slice none 0 0)) (fun b e => Nat.le_of_eq (Eq.symm e))).setCell (p := ⟨w.heap.size + 1, 0, none⟩) (.inr (Nat.le_succ _)) (.int .i64 (ne))).setCell (p := ⟨w.heap.size + 1, 1, none⟩) (.inr (Nat.le_succ _)) (.int .i64 (-1))
     generalize World.setCell (World.setCell (World.setCell (World.setCell (World.setCell (World.setCell (World.setCell w9 ⟨w.heap.size, 0, none⟩ (.int .i64 0)) ⟨w.heap.size, 1, none⟩ (.string ⟨#[]⟩)) ⟨w.heap.size, 2, none⟩ (.int .i64 0)) ⟨w.heap.size, 3, none⟩ (.int .i64 0)) ⟨w.heap.size, 4, none⟩ (.slice none 0 0)) ⟨w.heap.size + 1, 0, none⟩ (.int .i64 (ne))) ⟨w.heap.size + 1, 1, none⟩ (.int .i64 (-1)) = w9 at hb9 hf9 hc9 ⊢
     have n0 : w9.cell? ⟨w.heap.size, 0, none⟩ = some (.int .i64 (0)) := hb9.cell 0
     have n1 : w9.cell? ⟨w.heap.size, 1, none⟩ = some (.string ⟨#[]⟩) := hb9.cell 1
     have n2 : w9.cell? ⟨w.heap.size, 2, none⟩ = some (.int .i64 (0)) := hb9.cell 2
     have n3 : w9.cell? ⟨w.heap.size, 3, none⟩ = some (.int .i64 (0)) := hb9.cell 3
     have n4 : w9.cell? ⟨w.heap.size, 4, none⟩ = some (.slice none 0 0) := hb9.cell 4
     have m0 : w9.cell? ⟨w.heap.size + 1, 0, none⟩ = some (.int .i64 (ne)) := hf9.cell 0
     have m1 : w9.cell? ⟨w.heap.size + 1, 1, none⟩ = some (.int .i64 (-1)) := hf9.cell 1
     refine bodyPost_ret (v := .tuple #[zeroNode, faultV (ne) (-1)]) (by simp [results, Tryz.results37, go_sem, n0, n1, n2, n3, n4, m0, m1, zeroNode, faultV]) rfl ?_
     rw [HR.out]
     exact ⟨hc9, by rw [Hne.out]⟩
    | none =>
     rw [hv] at HR
     rw [show errNum none = 0 from rfl]
     clear hv
     go_wp2_with fail
     refine wp_region_n (fun w' => w'.cell? ⟨wc.heap.size, 0, none⟩ = some (.int .i64 0) ∧ w'.cell? ⟨wc.heap.size, 1, none⟩ = some (.string ⟨#[114, 111, 111, 116]⟩) ∧ w'.cell? ⟨wc.heap.size, 2, none⟩ = some (.int .i64 1) ∧ w'.cell? ⟨wc.heap.size, 3, none⟩ = some (.int .i64 0) ∧ w'.cell? ⟨wc.heap.size, 4, none⟩ = some (.slice a4 nds.length cap4)) [2, 3] (by kernel_rfl) ?_ (fun hSh => ?_)
     ·exact ⟨hroot8.cell 0, hroot8.cell 1, hroot8.cell 2, hroot8.cell 3, hroot8.cell 4⟩
     refine n_tA (v := ?_) 0 rfl (Or.inl ⟨by rfl, ?_⟩) ?_
     rotate_left 1
     ·(intro w' hSw; (try dsimp only at hSw); go_simp; try with_reducible rfl)
     simp only [Act.put, qA, qB, qC, qD, qE, qF]
     refine n_step 1 rfl (by kernel_rfl) ?_
     go_wp2_with fail
     refine (fine_any w8.drew).mono ?_
     rintro en w9 ⟨rfl, hc9⟩
     replace hc9 := hc9.ofDrew
     have hroot9 := hroot8.keep hc9 nbE
     clear x0 x1 x2 x3 x4 z0 z1 z2 z3 z4 r0 r1 r2 r3
     have hb9 := hb8.keep hc9 nbE
     have hf9 := hf8.keep hc9 nbE
     have hc09 := hc08.tr hc9
     have hnd9 := hnd8.chg0 hc9
     unfold faultV
     go_wp2_with fail
     refine ⟨fun _ => ⟨hroot9.cell 0, hroot9.cell 1, hroot9.cell 2, hroot9.cell 3, hroot9.cell 4⟩, fun hSk => ?_⟩
     replace hSk := hSk (by rfl)
     have x0 : w9.cell? ⟨w.heap.size, 0, none⟩ = some (.int .i64 (0)) := hb9.cell 0
     have x1 : w9.cell? ⟨w.heap.size, 1, none⟩ = some (.string ⟨#[]⟩) := hb9.cell 1
     have x2 : w9.cell? ⟨w.heap.size, 2, none⟩ = some (.int .i64 (0)) := hb9.cell 2
     have x3 : w9.cell? ⟨w.heap.size, 3, none⟩ = some (.int .i64 (0)) := hb9.cell 3
     have x4 : w9.cell? ⟨w.heap.size, 4, none⟩ = some (.slice none 0 0) := hb9.cell 4
     have z0 : w9.frozen? ⟨w.heap.size, 0, none⟩ = false := hb9.free 0
     have z1 : w9.frozen? ⟨w.heap.size, 1, none⟩ = false := hb9.free 1
     have z2 : w9.frozen? ⟨w.heap.size, 2, none⟩ = false := hb9.free 2
     have z3 : w9.frozen? ⟨w.heap.size, 3, none⟩ = false := hb9.free 3
     have z4 : w9.frozen? ⟨w.heap.size, 4, none⟩ = false := hb9.free 4
     have r0 : w9.cell? ⟨w.heap.size + 1, 0, none⟩ = some (.int .i64 0) := hf9.cell 0
     have r1 : w9.cell? ⟨w.heap.size + 1, 1, none⟩ = some (.int .i64 0) := hf9.cell 1
     have r2 : w9.frozen? ⟨w.heap.size + 1, 0, none⟩ = false := hf9.free 0
     have r3 : w9.frozen? ⟨w.heap.size + 1, 1, none⟩ = false := hf9.free 1
     refine n_step 2 rfl (by kernel_rfl) ?_
     go_wp2_with fail
     refine ⟨fun hx => absurd hx (by decide), fun _ => ?_⟩
     refine n_step 3 rfl (by kernel_rfl) ?_
     go_wp2_with fail
     refine ⟨fun hx => absurd hx (by decide), fun _ => ?_⟩
     refine n_done (by kernel_rfl) ?_
     go_wp2_with fail
     have hne9 : w.heap.size + 1 ≠ w.heap.size := by omega
     have hne8 : w.heap.size ≠ w.heap.size + 1 := by omega
     have hb10 := ((store5 hb9 (.int .i64 0) (.string ⟨#[114, 111, 111, 116]⟩) (.int .i64 1) (.int .i64 0) (.slice a4 nds.length cap4)).other (p := ⟨w.heap.size + 1, 0, none⟩) hne8 (.int .i64 0)).other (p := ⟨w.heap.size + 1, 1, none⟩) hne8 (.int .i64 (-1))
     have hf10 := ((store5_other hf9 hne9 (.int .i64 0) (.string ⟨#[114, 111, 111, 116]⟩) (.int .i64 1) (.int .i64 0) (.slice a4 nds.length cap4)).set 0 (.int .i64 0)).set 1 (.int .i64 (-1))
     have hone := ((store5_chg w9 w.heap.size (.int .i64 0) (.string ⟨#[114, 111, 111, 116]⟩) (.int .i64 1) (.int .i64 0) (.slice a4 nds.length cap4)).mono (D := fun x => x = w.heap.size ∨ x = w.heap.size + 1) (fun _ _ e => .inl e)).setCell (p := ⟨w.heap.size + 1, 0, none⟩) (.inl (.inr rfl)) (.int .i64 0) |>.setCell (p := ⟨w.heap.size + 1, 1, none⟩) (.inl (.inr rfl)) (.int .i64 (-1))
     have hszw : w.heap.size ≤ w3.heap.size := hsz3
     have hnd10 := hnd9.chg hone (fun x hx e => by rcases e with e | e <;> omega)
     have hc10 := hc09.trans' hone (fun x e => by rcases e with e | e <;> omega)
     clear hone
     generalize World.setCell (World.setCell (World.setCell (World.setCell (World.setCell (World.setCell (World.setCell w9 ⟨w.heap.size, 0, none⟩ (.int .i64 0)) ⟨w.heap.size, 1, none⟩ (.string ⟨#[114, 111, 111, 116]⟩)) ⟨w.heap.size, 2, none⟩ (.int .i64 1)) ⟨w.heap.size, 3, none⟩ (.int .i64 0)) ⟨w.heap.size, 4, none⟩ (.slice a4 nds.length cap4)) ⟨w.heap.size + 1, 0, none⟩ (.int .i64 0)) ⟨w.heap.size + 1, 1, none⟩ (.int .i64 (-1)) = w10 at hb10 hf10 hc10 hnd10 ⊢
     have n0 : w10.cell? ⟨w.heap.size, 0, none⟩ = some (.int .i64 (0)) := hb10.cell 0
     have n1 : w10.cell? ⟨w.heap.size, 1, none⟩ = some (.string ⟨#[114, 111, 111, 116]⟩) := hb10.cell 1
     have n2 : w10.cell? ⟨w.heap.size, 2, none⟩ = some (.int .i64 (1)) := hb10.cell 2
     have n3 : w10.cell? ⟨w.heap.size, 3, none⟩ = some (.int .i64 (0)) := hb10.cell 3
     have n4 : w10.cell? ⟨w.heap.size, 4, none⟩ = some (.slice a4 nds.length cap4) := hb10.cell 4
     have m0 : w10.cell? ⟨w.heap.size + 1, 0, none⟩ = some (.int .i64 0) := hf10.cell 0
     have m1 : w10.cell? ⟨w.heap.size + 1, 1, none⟩ = some (.int .i64 (-1)) := hf10.cell 1
     refine bodyPost_ret (v := .tuple #[.agg #[.int .i64 0, .string ⟨#[114, 111, 111, 116]⟩, .int .i64 1, .int .i64 0, .slice a4 nds.length cap4], faultV 0 (-1)]) (by simp [results, Tryz.results37, go_sem, n0, n1, n2, n3, n4, m0, m1, faultV]) rfl ?_
     rw [HR.out]
     exact ⟨hc10, _, rfl, hnd10.mono (fun x hx => by omega)⟩
end Go.Proofs.YtkchmgjmecojcaaGreatDoor
