/-
  evolve's node: the node that a line is, with numbers from the log's next one on.
-/
import Derived.Test.YtnmhkafpgohefaaGreatDoorGiveT
import Derived.Test.YtnmhkafpgohefaaGreatDoorSplitLaw
import Derived.Test.YtnmhkafpgohefaaGreatDoorLineLaw2
import Derived.Test.YtnmhkafpgohefaaGreatDoorNumbered
set_option linter.unusedVariables false
set_option maxHeartbeats 20000000
set_option maxRecDepth 100000
set_option linter.unusedSimpArgs false
namespace Go.Proofs.YtnmhkafpgohefaaGreatDoor
open Go.RowKit
theorem ascii_at : Tryz.prog.globalNamed "strings.asciiSpace" = some 8 := by kernel_rfl
theorem tab_ascii {w w' : World} (h : Lib.TabIs Tryz.prog w "strings.asciiSpace" .u8 Lib.asciiSpaceTab) (hc : Chg NoB w w') : Lib.TabIs Tryz.prog w' "strings.asciiSpace" .u8 Lib.asciiSpaceTab := by
 unfold Lib.TabIs World.var? at h ⊢
 rw [ascii_at] at h ⊢
 simp only [Option.bind_some] at h ⊢
 cases hb : w.heap[8]? with
 | none => rw [hb] at h; simp at h
 | some o =>
  rw [hc.block _ (lt_of_block hb) nbE]
  exact h
def oneOf : RR → Option Nd
 | .ok (.mk _ _ _ _ [t]) => some t
 | _ => none
def nodeF (line : ByteArray) (nx : Int) : Option (Nd × Int) :=
 match oneOf (readF (mkB (joinW (numGo 1 (wordsB line)).1))) with
 | some t => if mkB (joinL (wordsNs [t])) = line then some (giveN (nx - 1) t, (numGo nx (wordsB line)).2.1) else none
 | none => none
def RetLT (gb : Nat) (g0 g1 g2 g3 g4 : Value) (nx : Int) (r : Option (Nd × Int)) (w : World) (en : Ending) (w' : World) : Prop :=
 Chg (OneB gb) w w' ∧ match r with
 | some (t, nx') => ∃ cs F, en = .returned (.tuple #[.agg cs.toArray, .bool true]) ∧ TrN w' w.heap.size t cs F ∧ F.Nodup ∧ Blk w' gb [g0, g1, g2, g3, g4, .int .i64 nx'] 81
 | none => en = .returned (.tuple #[zeroNode, .bool false]) ∧ Blk w' gb [g0, g1, g2, g3, g4, .int .i64 nx] 81
theorem joinW_le {xs : List ByteArray} {n : Nat} (hn : xs.length ≤ n) (h : ∀ x ∈ xs, x.size ≤ 90000) : (joinW xs).length ≤ n * 100001 := by
 cases xs with
 | nil => exact Nat.zero_le _
 | cons x r =>
  have h1 := blanks_len r (fun y hy => by have := h y (List.mem_cons_of_mem _ hy); omega)
  have h2 := h x (List.mem_cons_self ..)
  simp only [joinW, List.length_append, length_data, List.length_cons] at hn ⊢
  have h3 : r.length * 100001 + 100001 ≤ n * 100001 := by rw [← Nat.succ_mul]; exact Nat.mul_le_mul_right _ hn
  omega
theorem logNode_any (gb : Nat) (g0 g1 g2 g3 g4 : Value) (line : ByteArray) (nx m : Int) (w : World) (E : Er → Value) (hG : Glo w.heap.size E w) (hg : Blk w gb [g0, g1, g2, g3, g4, .int .i64 nx] 81) (hm : w.cell? ⟨15, 0, none⟩ = some (.int .i64 m)) (hgm : 15 ≠ gb)
  (htab : Lib.TabIs Tryz.prog w "strings.asciiSpace" .u8 Lib.asciiSpaceTab) (hl : line.size ≤ 10000) (hnx : 0 ≤ nx ∧ nx ≤ 1000000) :
  Calls Tryz.prog 91 #[.pointer (some ⟨gb, 0, none⟩), .string line] w (RetLT gb g0 g1 g2 g3 g4 nx (nodeF line nx) w) := by
 have he := enters_of Tryz.func130 (P := Tryz.prog) (by kernel_rfl) rfl
 have hwc := words_count line
 have hws := words_size line
 have hnum : ∀ (n0 : Int) (w' : World), 0 ≤ n0 ∧ n0 ≤ 1000000 → Chg NoB w w' → Calls Tryz.prog 126 #[.string line, .int .i64 n0] w' (fun en w'' => en = .returned (.tuple #[.string (mkB (joinW (numGo n0 (wordsB line)).1)), .int .i64 (numGo n0 (wordsB line)).2.1]) ∧ Chg NoB w' w'' ∧ (mkB (joinW (numGo n0 (wordsB line)).1)).size ≤ 9223372036854775807) := fun n0 w' hn0 hc => by
  have hG' := (hG.keep0 hc).up hc.size
  refine (numbered_any line (wordsB line) n0 m w' (by omega) ((hc.cell (lt_of_cell hm) nbE).trans hm) (split_words line).symm (words_len line) (by omega) (fun x hx => by have := hws x hx; omega) hn0.1 hn0.2 hG'.tabs).mono ?_
  rintro en w'' ⟨out, nx', h1, rfl, h2, h3, h4, _⟩
  rw [h1]
  refine ⟨rfl, h2, ?_⟩
  have h5 := joinW_le (n := 20002) (by omega) h4
  show (joinW out).length ≤ _
  omega
 have Hnum := Lib.hid hnum
 have Hnode := Lib.hid (show nodeF line nx = _ from rfl)
 clear hnum hwc hws
 go_enter Tryz.func91, Tryz.ntmps91
 go_wp2_with fail
 generalize hw1 : World.alloc _ _ = w1
 have hc1 : Chg NoB w w1 := by
  rw [← hw1]
  repeat (first | exact Chg.refl _ _ | apply Chg.alloc | apply Chg.drew)
 have hx1 : Blk w1 (w.heap.size) ([.pointer (some ⟨gb, 0, none⟩)]) 79 := by
  rw [← hw1]
  repeat (first | exact Blk.newAt (by first | rfl | (simp; done) | (simp; omega)) | apply Blk.alloc | apply Blk.drew)
 have hr1 : Blk w1 (w.heap.size + 1) (ndCells 0 ⟨#[]⟩ 0 0 (.slice none 0 0)) 56 := by
  rw [← hw1]
  repeat (first | exact Blk.newAt (by first | rfl | (simp; done) | (simp; omega)) | apply Blk.alloc | apply Blk.drew)
 clear hw1
 refine (Hnum.out 1 w1 (by decide) hc1).mono ?_
 rintro en w2 ⟨rfl, hc2, hsz⟩
 have hspec : nodeF line nx = match oneOf (readF (mkB (joinW (numGo 1 (wordsB line)).1))) with
  | some t => if mkB (joinL (wordsNs [t])) = line then some (giveN (nx - 1) t, (numGo nx (wordsB line)).2.1) else none
  | none => none := rfl
 generalize mkB (joinW (numGo 1 (wordsB line)).1) = small at hsz hspec ⊢
 generalize (numGo 1 (wordsB line)).2.1 = dum
 have Hspec := Lib.hid hspec
 clear hspec
 go_wp2_with fail
 have hc02 := hc1.tr hc2
 have h1 := read_tree small w2 E ((hG.keep0 hc02).up hc02.size) hsz
 clear Hnode
 have hgl := hg.lt
 have hr2 := hr1.keep hc2 nbE
 have hx2 := hx1.keep hc2 nbE
 have hGf := hG.errs.form
 cases hread : readF small with
 | er e =>
  have hres : nodeF line nx = none := by rw [Hspec.out, hread]; rfl
  have Hres := Lib.hid hres
  rw [hread] at h1
  obtain ⟨T, v, hEv⟩ := hGf e
  have HEv := Lib.hid hEv
  clear hres hread
  refine h1.mono ?_
  rintro en w3 ⟨hc3, rfl⟩
  rw [HEv.out]
  unfold zeroNode
  clear h1 hEv
  have hr3 := hr2.keep hc3 nbE
  have z0 : w3.frozen? ⟨w.heap.size + 1, 0, none⟩ = false := hr3.free 0
  have z1 : w3.frozen? ⟨w.heap.size + 1, 1, none⟩ = false := hr3.free 1
  have z2 : w3.frozen? ⟨w.heap.size + 1, 2, none⟩ = false := hr3.free 2
  have z3 : w3.frozen? ⟨w.heap.size + 1, 3, none⟩ = false := hr3.free 3
  have z4 : w3.frozen? ⟨w.heap.size + 1, 4, none⟩ = false := hr3.free 4
  have x0 : w3.cell? ⟨w.heap.size + 1, 0, none⟩ = some (.int .i64 (0)) := hr3.cell 0
  have x1 : w3.cell? ⟨w.heap.size + 1, 1, none⟩ = some (.string ⟨#[]⟩) := hr3.cell 1
  have x2 : w3.cell? ⟨w.heap.size + 1, 2, none⟩ = some (.int .i64 (0)) := hr3.cell 2
  have x3 : w3.cell? ⟨w.heap.size + 1, 3, none⟩ = some (.int .i64 (0)) := hr3.cell 3
  have x4 : w3.cell? ⟨w.heap.size + 1, 4, none⟩ = some (.slice none 0 0) := hr3.cell 4
  have hr3l := hr3.lt
  go_wp2_with fail
  have hb9 := store5 hr3 (.int .i64 0) (.string ⟨#[]⟩) (.int .i64 0) (.int .i64 0) (.slice none 0 0)
  have hc9 : Chg NoB w _ := (hc02.tr hc3).trans' (store5_chg w3 (w.heap.size + 1) (.int .i64 0) (.string ⟨#[]⟩) (.int .i64 0) (.int .i64 0) (.slice none 0 0)) (fun y e => by have e : y = w.heap.size + 1 := e; omega)
  generalize World.setCell (World.setCell (World.setCell (World.setCell (World.setCell w3 ⟨w.heap.size + 1, 0, none⟩ (.int .i64 0)) ⟨w.heap.size + 1, 1, none⟩ (.string ⟨#[]⟩)) ⟨w.heap.size + 1, 2, none⟩ (.int .i64 0)) ⟨w.heap.size + 1, 3, none⟩ (.int .i64 0)) ⟨w.heap.size + 1, 4, none⟩ (.slice none 0 0) = w9 at hb9 hc9 ⊢
  generalize hwF : World.alloc w9 _ = wF
  have hbF : Blk wF (w.heap.size + 1) [.int .i64 0, .string ⟨#[]⟩, .int .i64 0, .int .i64 0, .slice none 0 0] 56 := by rw [← hwF]; exact hb9.alloc _
  have hcF : Chg NoB w wF := by rw [← hwF]; exact hc9.alloc _
  have n0 : wF.cell? ⟨w.heap.size + 1, 0, none⟩ = some (.int .i64 (0)) := hbF.cell 0
  have n1 : wF.cell? ⟨w.heap.size + 1, 1, none⟩ = some (.string ⟨#[]⟩) := hbF.cell 1
  have n2 : wF.cell? ⟨w.heap.size + 1, 2, none⟩ = some (.int .i64 (0)) := hbF.cell 2
  have n3 : wF.cell? ⟨w.heap.size + 1, 3, none⟩ = some (.int .i64 (0)) := hbF.cell 3
  have n4 : wF.cell? ⟨w.heap.size + 1, 4, none⟩ = some (.slice none 0 0) := hbF.cell 4
  refine bodyPost_ret (v := .tuple #[zeroNode, .bool false]) (by simp [results, Tryz.results91, go_sem, n0, n1, n2, n3, n4, zeroNode]) rfl ?_
  rw [Hres.out]
  exact ⟨hcF.mono (fun _ _ e => nbE e), rfl, hg.keep hcF nbE⟩
 | bad e q =>
  have hres : nodeF line nx = none := by rw [Hspec.out, hread]; rfl
  have Hres := Lib.hid hres
  rw [hread] at h1
  clear hres hread
  refine h1.mono ?_
  rintro en w3 ⟨hc3, v, rfl, hf3⟩
  obtain ⟨p3, rfl, hp3⟩ := hf3
  unfold zeroNode
  clear h1
  have hr3 := hr2.keep hc3 nbE
  have z0 : w3.frozen? ⟨w.heap.size + 1, 0, none⟩ = false := hr3.free 0
  have z1 : w3.frozen? ⟨w.heap.size + 1, 1, none⟩ = false := hr3.free 1
  have z2 : w3.frozen? ⟨w.heap.size + 1, 2, none⟩ = false := hr3.free 2
  have z3 : w3.frozen? ⟨w.heap.size + 1, 3, none⟩ = false := hr3.free 3
  have z4 : w3.frozen? ⟨w.heap.size + 1, 4, none⟩ = false := hr3.free 4
  have x0 : w3.cell? ⟨w.heap.size + 1, 0, none⟩ = some (.int .i64 (0)) := hr3.cell 0
  have x1 : w3.cell? ⟨w.heap.size + 1, 1, none⟩ = some (.string ⟨#[]⟩) := hr3.cell 1
  have x2 : w3.cell? ⟨w.heap.size + 1, 2, none⟩ = some (.int .i64 (0)) := hr3.cell 2
  have x3 : w3.cell? ⟨w.heap.size + 1, 3, none⟩ = some (.int .i64 (0)) := hr3.cell 3
  have x4 : w3.cell? ⟨w.heap.size + 1, 4, none⟩ = some (.slice none 0 0) := hr3.cell 4
  have hr3l := hr3.lt
  go_wp2_with fail
  have hb9 := store5 hr3 (.int .i64 0) (.string ⟨#[]⟩) (.int .i64 0) (.int .i64 0) (.slice none 0 0)
  have hc9 : Chg NoB w _ := (hc02.tr hc3).trans' (store5_chg w3 (w.heap.size + 1) (.int .i64 0) (.string ⟨#[]⟩) (.int .i64 0) (.int .i64 0) (.slice none 0 0)) (fun y e => by have e : y = w.heap.size + 1 := e; omega)
  generalize World.setCell (World.setCell (World.setCell (World.setCell (World.setCell w3 ⟨w.heap.size + 1, 0, none⟩ (.int .i64 0)) ⟨w.heap.size + 1, 1, none⟩ (.string ⟨#[]⟩)) ⟨w.heap.size + 1, 2, none⟩ (.int .i64 0)) ⟨w.heap.size + 1, 3, none⟩ (.int .i64 0)) ⟨w.heap.size + 1, 4, none⟩ (.slice none 0 0) = w9 at hb9 hc9 ⊢
  generalize hwF : World.alloc w9 _ = wF
  have hbF : Blk wF (w.heap.size + 1) [.int .i64 0, .string ⟨#[]⟩, .int .i64 0, .int .i64 0, .slice none 0 0] 56 := by rw [← hwF]; exact hb9.alloc _
  have hcF : Chg NoB w wF := by rw [← hwF]; exact hc9.alloc _
  have n0 : wF.cell? ⟨w.heap.size + 1, 0, none⟩ = some (.int .i64 (0)) := hbF.cell 0
  have n1 : wF.cell? ⟨w.heap.size + 1, 1, none⟩ = some (.string ⟨#[]⟩) := hbF.cell 1
  have n2 : wF.cell? ⟨w.heap.size + 1, 2, none⟩ = some (.int .i64 (0)) := hbF.cell 2
  have n3 : wF.cell? ⟨w.heap.size + 1, 3, none⟩ = some (.int .i64 (0)) := hbF.cell 3
  have n4 : wF.cell? ⟨w.heap.size + 1, 4, none⟩ = some (.slice none 0 0) := hbF.cell 4
  refine bodyPost_ret (v := .tuple #[zeroNode, .bool false]) (by simp [results, Tryz.results91, go_sem, n0, n1, n2, n3, n4, zeroNode]) rfl ?_
  rw [Hres.out]
  exact ⟨hcF.mono (fun _ _ e => nbE e), rfl, hg.keep hcF nbE⟩
 | ok root =>
  obtain ⟨ri, rn, rr, rk, s⟩ := root
  rw [hread] at h1
  refine h1.mono ?_
  rintro en w3 ⟨hc3, cs, F, rfl, htr, hnd⟩
  obtain ⟨rv, hcs, htl⟩ := trN.1 htr
  obtain ⟨ra, rc, rfl, hlen3, hcap3⟩ := htl.form
  unfold ndCells at hcs
  subst hcs
  unfold maxLen at hcap3
  clear h1
  have hr3 := hr2.keep hc3 nbE
  have hx3 := hx2.keep hc3 nbE
  have hc03 := hc02.tr hc3
  by_cases hs1 : s.length = 1
  rotate_left 1
  ·have hres : nodeF line nx = none := by
    rw [Hspec.out, hread]
    rcases s with _ | ⟨a, _ | ⟨b, l⟩⟩
    ·rfl
    ·exact absurd rfl hs1
    ·rfl
   have Hres := Lib.hid hres
   have hsb : ((s.length : Int) != 1) = true := by rw [bne_iff_ne]; omega
   clear hres hread hs1 htr htl hnd
   have z0 : w3.frozen? ⟨w.heap.size + 1, 0, none⟩ = false := hr3.free 0
   have z1 : w3.frozen? ⟨w.heap.size + 1, 1, none⟩ = false := hr3.free 1
   have z2 : w3.frozen? ⟨w.heap.size + 1, 2, none⟩ = false := hr3.free 2
   have z3 : w3.frozen? ⟨w.heap.size + 1, 3, none⟩ = false := hr3.free 3
   have z4 : w3.frozen? ⟨w.heap.size + 1, 4, none⟩ = false := hr3.free 4
   have x0 : w3.cell? ⟨w.heap.size + 1, 0, none⟩ = some (.int .i64 (0)) := hr3.cell 0
   have x1 : w3.cell? ⟨w.heap.size + 1, 1, none⟩ = some (.string ⟨#[]⟩) := hr3.cell 1
   have x2 : w3.cell? ⟨w.heap.size + 1, 2, none⟩ = some (.int .i64 (0)) := hr3.cell 2
   have x3 : w3.cell? ⟨w.heap.size + 1, 3, none⟩ = some (.int .i64 (0)) := hr3.cell 3
   have x4 : w3.cell? ⟨w.heap.size + 1, 4, none⟩ = some (.slice none 0 0) := hr3.cell 4
   have hr3l := hr3.lt
   go_wp2_with fail
   have hb9 := store5 hr3 (.int .i64 0) (.string ⟨#[]⟩) (.int .i64 0) (.int .i64 0) (.slice none 0 0)
   have hc9 : Chg NoB w _ := (hc03).trans' (store5_chg w3 (w.heap.size + 1) (.int .i64 0) (.string ⟨#[]⟩) (.int .i64 0) (.int .i64 0) (.slice none 0 0)) (fun y e => by have e : y = w.heap.size + 1 := e; omega)
   generalize World.setCell (World.setCell (World.setCell (World.setCell (World.setCell w3 ⟨w.heap.size + 1, 0, none⟩ (.int .i64 0)) ⟨w.heap.size + 1, 1, none⟩ (.string ⟨#[]⟩)) ⟨w.heap.size + 1, 2, none⟩ (.int .i64 0)) ⟨w.heap.size + 1, 3, none⟩ (.int .i64 0)) ⟨w.heap.size + 1, 4, none⟩ (.slice none 0 0) = w9 at hb9 hc9 ⊢
   generalize hwF : World.alloc w9 _ = wF
   have hbF : Blk wF (w.heap.size + 1) [.int .i64 0, .string ⟨#[]⟩, .int .i64 0, .int .i64 0, .slice none 0 0] 56 := by rw [← hwF]; exact hb9.alloc _
   have hcF : Chg NoB w wF := by rw [← hwF]; exact hc9.alloc _
   have n0 : wF.cell? ⟨w.heap.size + 1, 0, none⟩ = some (.int .i64 (0)) := hbF.cell 0
   have n1 : wF.cell? ⟨w.heap.size + 1, 1, none⟩ = some (.string ⟨#[]⟩) := hbF.cell 1
   have n2 : wF.cell? ⟨w.heap.size + 1, 2, none⟩ = some (.int .i64 (0)) := hbF.cell 2
   have n3 : wF.cell? ⟨w.heap.size + 1, 3, none⟩ = some (.int .i64 (0)) := hbF.cell 3
   have n4 : wF.cell? ⟨w.heap.size + 1, 4, none⟩ = some (.slice none 0 0) := hbF.cell 4
   refine bodyPost_ret (v := .tuple #[zeroNode, .bool false]) (by simp [results, Tryz.results91, go_sem, n0, n1, n2, n3, n4, zeroNode]) rfl ?_
   rw [Hres.out]
   exact ⟨hcF.mono (fun _ _ e => nbE e), rfl, hg.keep hcF nbE⟩
  ·obtain ⟨t, rfl⟩ : ∃ t, s = [t] := by
    rcases s with _ | ⟨a, _ | ⟨b, l⟩⟩
    ·cases hs1
    ·exact ⟨a, rfl⟩
    ·simp at hs1
   have hv := read_valid hread
   have hS := schema_of_valid hv
   have hRt : Nd.Alls Right [t] := hS.right
   have hshort := text_short hS
   have hok := read_ok hread
   have htextF : textF (.mk ri rn rr rk [t]) = textL [t] [] := by unfold textF; rw [if_pos hv]; rfl
   have hpl := plain_facts (l := [t]) (by simp) hRt hshort
   have hspec := Hspec.out
   rw [hread] at hspec
   have hspec2 : nodeF line nx = if mkB (joinL (wordsNs [t])) = line then some (giveN (nx - 1) t, (numGo nx (wordsB line)).2.1) else none := hspec
   have Hspec2 := Lib.hid hspec2
   have Hpl := Lib.hid hpl
   have Hnd := Lib.hid hnd
   have hsb : (((1 : Nat) : Int) != 1) = false := rfl
   clear hspec hspec2 hpl hread hs1 hnd
   rcases htl with ⟨h0, _⟩ | ⟨rb, cap, cur, F', e1, e2, e3, e4, e5, e6, e7, rfl⟩
   ·cases h0
   obtain ⟨rfl, -, rfl⟩ := Value.slice.inj e1
   obtain ⟨c, r, Fc, F2, rfl, htt, hn2, rfl⟩ := trC_cons.1 e7
   obtain rfl := trC_nil.1 hn2
   rw [List.append_nil] at Hnd htr
   have htt5 := htt.five
   clear e1 e7 hn2
   go_wp2_with fail
   generalize hw4 : World.alloc w3 _ = w4
   have hc4 : Chg NoB w3 w4 := by
    rw [← hw4]
    repeat (first | exact Chg.refl _ _ | apply Chg.alloc | apply Chg.drew)
   have hb4 : Blk w4 w3.heap.size (ndCells ri rn rr rk (.slice (some ⟨rb, 0, none⟩) 1 rc)) 56 := by rw [← hw4]; exact Blk.newAt rfl
   clear hw4
   have hc04 := hc03.tr hc4
   have hG4 := hG.keep0 hc04
   have h2 := text_any (.mk ri rn rr rk [t]) w4 (fun b => b < w3.heap.size) _ E hG4.errs (hG4.tabs.up hc04.size) hok ((TrN.reads (S := fun b => b < w3.heap.size) _ _ _ htr (fun x hx => (TrN.lt _ _ _ htr x hx).2)).chg0 hc4) (fun b hb => by have := hc4.size; omega) good_of
   rw [htextF, hv] at h2
   refine h2.mono ?_
   rintro en w5 ⟨rfl, hc5⟩
   rw [show errVal E none = .nilIface from rfl]
   have hc05 := hc04.tr hc5
   have htab5 := tab_ascii htab hc05
   clear h2
   go_wp2_with fail
   have h3 := plain_any (mkB (textL [t] [])) ((idWordsNs [t]).map mkB) w5 (by show (textL [t] []).length < _; have h9 : (textL [t] []).length ≤ 3400 := hshort; omega) (fun j b hb => ascii_textL [t] [] hRt (fun c hc => by cases hc) b (List.mem_of_getElem? hb)) htab5 Hpl.out.1 Hpl.out.2.1 Hpl.out.2.2.1 Hpl.out.2.2.2.1 Hpl.out.2.2.2.2.1
   rw [Hpl.out.2.2.2.2.2] at h3
   refine h3.mono ?_
   rintro en w6 ⟨rfl, hc6⟩
   clear h3
   generalize mkB (joinL (wordsNs [t])) = pw at Hspec2 ⊢
   have hb6 := (hb4.keep hc5 nbE).keep hc6 nbE
   have hr6 := ((hr3.keep hc4 nbE).keep hc5 nbE).keep hc6 nbE
   have hx6 := ((hx3.keep hc4 nbE).keep hc5 nbE).keep hc6 nbE
   have hc36 : Chg NoB w3 w6 := (hc4.tr hc5).tr hc6
   have hc06 := hc05.tr hc6
   have hr6l := hr6.lt
   by_cases hpe : pw = line
   rotate_left 1
   ·have hres : nodeF line nx = none := by rw [Hspec2.out, if_neg hpe]
    have Hres := Lib.hid hres
    have hpb : (pw.toList == line.toList) = false := by
     rw [beq_eq_false_iff_ne]
     intro e
     apply hpe
     rw [Lib.toList_data, Lib.toList_data] at e
     rw [← mkB_back pw, ← mkB_back line, e]
    clear hres hpe
    have z0 : w6.frozen? ⟨w.heap.size + 1, 0, none⟩ = false := hr6.free 0
    have z1 : w6.frozen? ⟨w.heap.size + 1, 1, none⟩ = false := hr6.free 1
    have z2 : w6.frozen? ⟨w.heap.size + 1, 2, none⟩ = false := hr6.free 2
    have z3 : w6.frozen? ⟨w.heap.size + 1, 3, none⟩ = false := hr6.free 3
    have z4 : w6.frozen? ⟨w.heap.size + 1, 4, none⟩ = false := hr6.free 4
    have x0 : w6.cell? ⟨w.heap.size + 1, 0, none⟩ = some (.int .i64 (0)) := hr6.cell 0
    have x1 : w6.cell? ⟨w.heap.size + 1, 1, none⟩ = some (.string ⟨#[]⟩) := hr6.cell 1
    have x2 : w6.cell? ⟨w.heap.size + 1, 2, none⟩ = some (.int .i64 (0)) := hr6.cell 2
    have x3 : w6.cell? ⟨w.heap.size + 1, 3, none⟩ = some (.int .i64 (0)) := hr6.cell 3
    have x4 : w6.cell? ⟨w.heap.size + 1, 4, none⟩ = some (.slice none 0 0) := hr6.cell 4
    go_wp2_with fail
    have hb9 := store5 hr6 (.int .i64 0) (.string ⟨#[]⟩) (.int .i64 0) (.int .i64 0) (.slice none 0 0)
    have hcF : Chg NoB w _ := hc06.trans' (store5_chg w6 (w.heap.size + 1) (.int .i64 0) (.string ⟨#[]⟩) (.int .i64 0) (.int .i64 0) (.slice none 0 0)) (fun y e => by have e : y = w.heap.size + 1 := e; omega)
    generalize World.setCell (World.setCell (World.setCell (World.setCell (World.setCell w6 ⟨w.heap.size + 1, 0, none⟩ (.int .i64 0)) ⟨w.heap.size + 1, 1, none⟩ (.string ⟨#[]⟩)) ⟨w.heap.size + 1, 2, none⟩ (.int .i64 0)) ⟨w.heap.size + 1, 3, none⟩ (.int .i64 0)) ⟨w.heap.size + 1, 4, none⟩ (.slice none 0 0) = w9 at hb9 hcF ⊢
    have n0 : w9.cell? ⟨w.heap.size + 1, 0, none⟩ = some (.int .i64 (0)) := hb9.cell 0
    have n1 : w9.cell? ⟨w.heap.size + 1, 1, none⟩ = some (.string ⟨#[]⟩) := hb9.cell 1
    have n2 : w9.cell? ⟨w.heap.size + 1, 2, none⟩ = some (.int .i64 (0)) := hb9.cell 2
    have n3 : w9.cell? ⟨w.heap.size + 1, 3, none⟩ = some (.int .i64 (0)) := hb9.cell 3
    have n4 : w9.cell? ⟨w.heap.size + 1, 4, none⟩ = some (.slice none 0 0) := hb9.cell 4
    refine bodyPost_ret (v := .tuple #[zeroNode, .bool false]) (by simp [results, Tryz.results91, go_sem, n0, n1, n2, n3, n4, zeroNode]) rfl ?_
    rw [Hres.out]
    exact ⟨hcF.mono (fun _ _ e => nbE e), rfl, hg.keep hcF nbE⟩
   ·have hres : nodeF line nx = some (giveN (nx - 1) t, (numGo nx (wordsB line)).2.1) := by rw [Hspec2.out, if_pos hpe]
    have Hres := Lib.hid hres
    have hpb : (pw.toList == line.toList) = true := by rw [hpe]; exact beq_self_eq_true _
    have hRT := Lib.hid (Nd.All.imp (P := Right) (Q := SmallId) (fun n h => ⟨by have := h.2.2.2.2.2.2.2.1; omega, by have := h.2.2.2.2.2.2.2.2; omega⟩) t hRt.1)
    clear hres hpe hr6
    have hr6 := ((hr3.keep hc4 nbE).keep hc5 nbE).keep hc6 nbE
    have htt6 := TrN.keep t c Fc htt (fun x hx => hc36.block x (TrN.lt t c Fc htt x hx).2 nbE)
    have hFc := TrN.lt t c Fc htt6
    have e56 := e5.keep hc36 nbE
    obtain ⟨i1, n1, r1, k1, s1⟩ := t
    obtain ⟨v1, hcs, ht1⟩ := trN.1 htt6
    obtain ⟨a1, cap1, rfl, _, _⟩ := ht1.form
    unfold ndCells at hcs
    subst hcs
    have q0 : w6.cell? ⟨rb, 0, none⟩ = some (.int .i64 i1) := e56.cell 0
    have q1 : w6.cell? ⟨rb, 1, none⟩ = some (.string n1) := e56.cell 1
    have q2 : w6.cell? ⟨rb, 2, none⟩ = some (.int .i64 r1) := e56.cell 2
    have q3 : w6.cell? ⟨rb, 3, none⟩ = some (.int .i64 k1) := e56.cell 3
    have q4 : w6.cell? ⟨rb, 4, none⟩ = some (.slice a1 s1.length cap1) := e56.cell 4
    have x0 : w6.cell? ⟨w3.heap.size, 0, none⟩ = some (.int .i64 (ri)) := hb6.cell 0
    have x1 : w6.cell? ⟨w3.heap.size, 1, none⟩ = some (.string rn) := hb6.cell 1
    have x2 : w6.cell? ⟨w3.heap.size, 2, none⟩ = some (.int .i64 (rr)) := hb6.cell 2
    have x3 : w6.cell? ⟨w3.heap.size, 3, none⟩ = some (.int .i64 (rk)) := hb6.cell 3
    have x4 : w6.cell? ⟨w3.heap.size, 4, none⟩ = some (.slice (some ⟨rb, 0, none⟩) 1 rc) := hb6.cell 4
    have lx6 := hb6.lt
    have lrb := e56.lt
    have p0 : w6.cell? ⟨w.heap.size, 0, none⟩ = some (.pointer (some ⟨gb, 0, none⟩)) := hx6.cell 0
    have lp := hx6.lt
    clear ht1 htr
    go_wp2_with fail
    generalize hw7 : (w6.alloc _).alloc _ = w7
    have hc67 : Chg NoB w6 w7 := by
     rw [← hw7]
     repeat (first | exact Chg.refl _ _ | apply Chg.alloc | apply Chg.drew)
    have hn7 : Blk w7 w6.heap.size [.int .i64 i1, .string n1, .int .i64 r1, .int .i64 k1, .slice a1 s1.length cap1] 56 := by rw [← hw7]; exact (Blk.newAt rfl).alloc _
    have hf7 : Blk w7 (w6.heap.size + 1) [.func (.func 130) #[] #[.pointer (some ⟨w.heap.size, 0, none⟩), .pointer (some ⟨w6.heap.size + 1, 0, none⟩)]] 224 := by rw [← hw7]; exact Blk.newAt (by simp)
    clear hw7 x0 x1 x2 x3 x4 q0 q1 q2 q3 q4 p0
    have hc07 := hc06.tr hc67
    have hz6 := hc06.size
    have hz2 := hr2.lt
    have hz23 := hc3.size
    have hz36 := hc36.size
    have hg7 := hg.keep hc07 nbE
    have hx7 := hx6.keep hc67 nbE
    have hr7 := hr6.keep hc67 nbE
    have hF3 := TrN.lt _ _ Fc htt
    have htt7 := TrN.keep _ _ Fc htt6 (fun x hx => hc67.block x (hFc x hx).2 nbE)
    have hpt : PtN w7 w2.heap.size w6.heap.size 0 (.mk i1 n1 r1 k1 s1) Fc := ⟨[], _, [], _, rfl, by simpa using hn7, htt7, fun e => by have := (hF3 _ e).2; omega, (List.nodup_cons.1 Hnd.out).2⟩
    have hgive := give_any w2.heap.size gb w.heap.size (w6.heap.size + 1) nx hnx _ w6.heap.size 0 (.mk i1 n1 r1 k1 s1) Fc w7 (Nat.le_refl _) hRT.out hpt ⟨hg7.cell 5, hx7.cell 0, hf7.cell 0⟩ ⟨by omega, fun e => by have := (hF3 _ e).1; omega⟩ ⟨by omega, fun e => by have := (hF3 _ e).1; omega⟩ ⟨by omega, fun e => by have := (hF3 _ e).2; omega⟩
    refine hgive.mono ?_
    rintro en w8 ⟨rfl, F8, hu8⟩
    have hcB : ∀ x, x = w6.heap.size ∨ x ∈ Fc → w2.heap.size ≤ x := fun x hx => by
     rcases hx with hx | hx
     ·omega
     ·exact (hF3 x hx).1
    have hc08 : Chg NoB w w8 := hc07.trans' hu8.chg (fun x hx => by have := hcB x hx; omega)
    have hg8 := hg.keep hc08 nbE
    have hx8 := hx7.keep hu8.chg (fun e => by have := hcB _ e; omega)
    have hr8 := hr7.keep hu8.chg (fun e => by have := hcB _ e; omega)
    have p0 : w8.cell? ⟨w.heap.size, 0, none⟩ = some (.pointer (some ⟨gb, 0, none⟩)) := hx8.cell 0
    have d5 : w8.cell? ⟨gb, 5, none⟩ = some (.int .i64 nx) := hg8.cell 5
    have Hu8 := Lib.hid hu8
    clear hgive hpt hu8 hn7 hf7 hg7 hx7 hr7 htt7
    go_wp2_with fail
    refine (Hnum.out nx w8 hnx hc08).mono ?_
    rintro en w9 ⟨rfl, hc9, _⟩
    generalize mkB (joinW (numGo nx (wordsB line)).1) = dum2
    generalize (numGo nx (wordsB line)).2.1 = nx' at Hres ⊢
    have hpt9 := Hu8.out.pt'.keep0 hc9
    have hF8 := Lib.hid hpt9.lt.2
    have hF8n := hpt9
    obtain ⟨v9, ht9, y0, y1, y2, y3, y4, _⟩ := hpt9.form
    obtain ⟨a9, cap9, rfl, _, _⟩ := ht9.form
    have hg9 := hg8.keep hc9 nbE
    have hx9 := hx8.keep hc9 nbE
    have hr9 := hr8.keep hc9 nbE
    have hc09 := hc08.tr hc9
    clear p0 d5
    have p0 : w9.cell? ⟨w.heap.size, 0, none⟩ = some (.pointer (some ⟨gb, 0, none⟩)) := hx9.cell 0
    have d5 : w9.cell? ⟨gb, 5, none⟩ = some (.int .i64 nx) := hg9.cell 5
    have d5f : w9.frozen? ⟨gb, 5, none⟩ = false := hg9.free 5
    have x0 : w9.cell? ⟨w6.heap.size, 0, none⟩ = some (.int .i64 (i1 + (nx - 1))) := y0
    have x1 : w9.cell? ⟨w6.heap.size, 1, none⟩ = some (.string n1) := y1
    have x2 : w9.cell? ⟨w6.heap.size, 2, none⟩ = some (.int .i64 r1) := y2
    have x3 : w9.cell? ⟨w6.heap.size, 3, none⟩ = some (.int .i64 k1) := y3
    have x4 : w9.cell? ⟨w6.heap.size, 4, none⟩ = some (.slice a9 (giveL (nx - 1) s1).length cap9) := y4
    have hgn : gb ≠ w6.heap.size := by omega
    have hgr : gb ≠ w.heap.size + 1 := by omega
    have hnr : w6.heap.size ≠ w.heap.size + 1 := by omega
    have y0 : w9.cell? ⟨w.heap.size + 1, 0, none⟩ = some (.int .i64 (0)) := hr9.cell 0
    have y1 : w9.cell? ⟨w.heap.size + 1, 1, none⟩ = some (.string ⟨#[]⟩) := hr9.cell 1
    have y2 : w9.cell? ⟨w.heap.size + 1, 2, none⟩ = some (.int .i64 (0)) := hr9.cell 2
    have y3 : w9.cell? ⟨w.heap.size + 1, 3, none⟩ = some (.int .i64 (0)) := hr9.cell 3
    have y4 : w9.cell? ⟨w.heap.size + 1, 4, none⟩ = some (.slice none 0 0) := hr9.cell 4
    have z0 : w9.frozen? ⟨w.heap.size + 1, 0, none⟩ = false := hr9.free 0
    have z1 : w9.frozen? ⟨w.heap.size + 1, 1, none⟩ = false := hr9.free 1
    have z2 : w9.frozen? ⟨w.heap.size + 1, 2, none⟩ = false := hr9.free 2
    have z3 : w9.frozen? ⟨w.heap.size + 1, 3, none⟩ = false := hr9.free 3
    have z4 : w9.frozen? ⟨w.heap.size + 1, 4, none⟩ = false := hr9.free 4
    have hn9l := lt_of_cell x0
    have hr9l := hr9.lt
    go_wp2_with fail
    have hr10 := hr9.other (p := ⟨gb, 5, none⟩) (fun e => hgr e.symm) (.int .i64 nx')
    have hg10 := hg9.set 5 (.int .i64 nx')
    have hc10 : Chg (OneB gb) w9 (w9.setCell ⟨gb, 5, none⟩ (.int .i64 nx')) := (Chg.refl (OneB gb) w9).setCell (p := ⟨gb, 5, none⟩) (.inl rfl) _
    have hr11 := store5 hr10 (.int .i64 (i1 + (nx - 1))) (.string n1) (.int .i64 r1) (.int .i64 k1) (.slice a9 (giveL (nx - 1) s1).length cap9)
    have hg11 := store5_other (b := w.heap.size + 1) hg10 hgr (.int .i64 (i1 + (nx - 1))) (.string n1) (.int .i64 r1) (.int .i64 k1) (.slice a9 (giveL (nx - 1) s1).length cap9)
    have hcX : Chg (fun x => x = gb ∨ x = w.heap.size + 1) w9 _ := (hc10.mono (D := fun x => x = gb ∨ x = w.heap.size + 1) (fun x _ e => .inl e)).trans (store5_chg (w9.setCell ⟨gb, 5, none⟩ (.int .i64 nx')) (w.heap.size + 1) (.int .i64 (i1 + (nx - 1))) (.string n1) (.int .i64 r1) (.int .i64 k1) (.slice a9 (giveL (nx - 1) s1).length cap9)) (fun y e => .inl (.inr e))
    generalize World.setCell (World.setCell (World.setCell (World.setCell (World.setCell (w9.setCell ⟨gb, 5, none⟩ (.int .i64 nx')) ⟨w.heap.size + 1, 0, none⟩ (.int .i64 (i1 + (nx - 1)))) ⟨w.heap.size + 1, 1, none⟩ (.string n1)) ⟨w.heap.size + 1, 2, none⟩ (.int .i64 r1)) ⟨w.heap.size + 1, 3, none⟩ (.int .i64 k1)) ⟨w.heap.size + 1, 4, none⟩ (.slice a9 (giveL (nx - 1) s1).length cap9) = w11 at hr11 hg11 hcX ⊢
    have qq0 : w11.cell? ⟨w.heap.size + 1, 0, none⟩ = some (.int .i64 (i1 + (nx - 1))) := hr11.cell 0
    have qq1 : w11.cell? ⟨w.heap.size + 1, 1, none⟩ = some (.string n1) := hr11.cell 1
    have qq2 : w11.cell? ⟨w.heap.size + 1, 2, none⟩ = some (.int .i64 (r1)) := hr11.cell 2
    have qq3 : w11.cell? ⟨w.heap.size + 1, 3, none⟩ = some (.int .i64 (k1)) := hr11.cell 3
    have qq4 : w11.cell? ⟨w.heap.size + 1, 4, none⟩ = some (.slice a9 (giveL (nx - 1) s1).length cap9) := hr11.cell 4
    refine bodyPost_ret (v := .tuple #[.agg #[.int .i64 (i1 + (nx - 1)), .string n1, .int .i64 r1, .int .i64 k1, .slice a9 (giveL (nx - 1) s1).length cap9], .bool true]) (by simp [results, Tryz.results91, go_sem, qq0, qq1, qq2, qq3, qq4]) rfl ?_
    rw [Hres.out]
    have hFin : ∀ x ∈ F8, w2.heap.size ≤ x := fun x hx => (hF8.out x hx).1
    refine ⟨(hc09.mono (D := OneB gb) (fun _ _ e => nbE e)).trans hcX (fun x hx => ?_), _, F8, rfl, TrN.mono (by omega) _ _ _ (trN.2 ⟨_, rfl, ht9.keep (fun x hx => hcX.block x (ht9.lt x hx).2 (fun e => by have := hFin x hx; omega))⟩), Hu8.out.nd', hg11⟩
    rcases hx with hx | hx
    ·exact .inl hx
    ·exact .inr (by omega)
end Go.Proofs.YtnmhkafpgohefaaGreatDoor
