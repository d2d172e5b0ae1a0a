/-
  The document's Edit: any line.; The document's ReplayOf: any edits.
-/
import Derived.Test.YtgcmfpcgmkkobaaGreatDoorEditR3
import Derived.Test.YtgcmfpcgmkkobaaGreatDoorEditR4
import Derived.Test.YtgcmfpcgmkkobaaGreatDoorShort
import Derived.Test.YtgcmfpcgmkkobaaGreatDoorReplayT
import Derived.Test.YtgcmfpcgmkkobaaGreatDoorWoR
set_option linter.unusedVariables false
set_option maxHeartbeats 20000000
set_option maxRecDepth 100000
set_option linter.unusedSimpArgs false
namespace Go.Proofs.YtgcmfpcgmkkobaaGreatDoor
open Go.RowKit
theorem mk_eq {a b : List UInt8} (h : mkB a = mkB b) : a = b := congrArg (fun s : ByteArray => s.data.toList) h
theorem verb_no {x : ByteArray} : ∀ {zs : List ByteArray} {k : Nat}, (∀ z ∈ zs, z ≠ x) → Lib.idxFromS zs x k = -1
 | [], k, _ => rfl
 | z :: zs, k, h => by
  rw [Lib.idxFromS, if_neg (h z (List.mem_cons_self ..))]
  exact verb_no fun y hy => h y (List.mem_cons_of_mem _ hy)
theorem editR_any (line : ByteArray) (its : List It) (l : List Nd) (nx : Int) (gb : Nat) (w : World) (hI : EdIn line its l nx gb w) :
  Calls Tryz.prog 41 #[.pointer (some ⟨gb, 0, none⟩), .string line] w (RetEdR gb (editW (wordsB line) l nx) w) := by
 obtain ⟨w0, W, hW⟩ : ∃ w0 W, wordsB line = (w0 :: W).map mkB := by
  cases hs : splB line.data.toList with
  | nil => exact absurd hs (splB_ne _)
  | cons w0 W => exact ⟨w0, W, by unfold wordsB; rw [hs]⟩
 by_cases h0 : w0 = [97, 100, 100]
 ·subst h0; exact editR_add line W its l nx gb w hI hW
 by_cases h1 : w0 = [100, 114, 111, 112]
 ·subst h1; exact editR_drop line W its l nx gb w hI hW
 by_cases h2 : w0 = [114, 101, 110, 97, 109, 101]
 ·subst h2; exact editR_rename line W its l nx gb w hI hW
 by_cases h3 : w0 = [109, 111, 118, 101]
 ·subst h3; exact editR_move line W its l nx gb w hI hW
 by_cases h4 : w0 = [119, 105, 100, 101, 110]
 ·subst h4; exact editR_widen line W its l nx gb w hI hW
 by_cases h5 : w0 = [108, 111, 111, 115, 101, 110]
 ·subst h5; exact editR_loosen line W its l nx gb w hI hW
 have n0 : mkB w0 ≠ bAdd := fun e => h0 (mk_eq (b := [97, 100, 100]) e)
 have n1 : mkB w0 ≠ bDrop := fun e => h1 (mk_eq (b := [100, 114, 111, 112]) e)
 have n2 : mkB w0 ≠ bRename := fun e => h2 (mk_eq (b := [114, 101, 110, 97, 109, 101]) e)
 have n3 : mkB w0 ≠ bMove := fun e => h3 (mk_eq (b := [109, 111, 118, 101]) e)
 have n4 : mkB w0 ≠ bWiden := fun e => h4 (mk_eq (b := [119, 105, 100, 101, 110]) e)
 have n5 : mkB w0 ≠ bLoosen := fun e => h5 (mk_eq (b := [108, 111, 111, 115, 101, 110]) e)
 have hmany : manyF (mkB w0) = none := by
  unfold manyF
  rw [if_neg n1, if_neg n2, if_neg n3, if_neg n4, if_neg n5]
 refine editR_no line w0 W its l nx gb w hI hW h0 h2 h3 ?_ ?_
 ·unfold Lib.idxOfS
  refine verb_no fun z hz => ?_
  unfold verbs at hz
  simp only [List.mem_cons, List.not_mem_nil, or_false] at hz
  rcases hz with rfl | rfl | rfl | rfl | rfl
  ·exact n1.symm
  ·exact n2.symm
  ·exact n3.symm
  ·exact n4.symm
  ·exact n5.symm
 ·rw [hW]
  cases W with
  | nil => rfl
  | cons w1 rest =>
   simp only [List.map_cons, editW]
   rw [if_neg (fun e => n0 e.1), hmany]
def faultE (c a : Int) : Value := .agg #[.int .i64 c, .int .i64 a]
theorem bareE_any (c : Int) (w : World) : Calls Tryz.prog 40 #[.int .i64 c] w (RetV (faultE c (-1)) w) := by
 go_enter Tryz.func40, Tryz.ntmps40
 go_wp2_with fail
 generalize hw1 : w.alloc _ = w1
 have hc1 : Chg NoB w w1 := by
  rw [← hw1]
  repeat (first | exact Chg.refl _ _ | apply Chg.alloc | apply Chg.drew)
 have hb1 : Blk w1 (w.heap.size) ([.int .i64 c, .int .i64 (-1)]) 52 := by
  rw [← hw1]
  repeat (first | exact Blk.newAt (by first | rfl | (simp; done) | (simp; omega)) | apply Blk.alloc | apply Blk.drew)
 clear hw1
 have n0 : w1.cell? ⟨w.heap.size, 0, none⟩ = some (.int .i64 c) := hb1.cell 0
 have n1 : w1.cell? ⟨w.heap.size, 1, none⟩ = some (.int .i64 (-1)) := hb1.cell 1
 refine bodyPost_ret (v := .agg #[.int .i64 c, .int .i64 (-1)]) (by simp [results, Tryz.results40, go_sem, n0, n1]) rfl ?_
 exact ⟨rfl, hc1⟩
theorem fineE_any (w : World) : Calls Tryz.prog 43 #[] w (RetV (faultE 0 (-1)) w) := by
 go_enter Tryz.func43, Tryz.ntmps43
 go_wp2_with fail
 generalize hw1 : w.alloc _ = w1
 have hc1 : Chg NoB w w1 := by
  rw [← hw1]
  repeat (first | exact Chg.refl _ _ | apply Chg.alloc | apply Chg.drew)
 have hb1 : Blk w1 (w.heap.size) ([.int .i64 0, .int .i64 (-1)]) 52 := by
  rw [← hw1]
  repeat (first | exact Blk.newAt (by first | rfl | (simp; done) | (simp; omega)) | apply Blk.alloc | apply Blk.drew)
 clear hw1
 have n0 : w1.cell? ⟨w.heap.size, 0, none⟩ = some (.int .i64 0) := hb1.cell 0
 have n1 : w1.cell? ⟨w.heap.size, 1, none⟩ = some (.int .i64 (-1)) := hb1.cell 1
 refine bodyPost_ret (v := .agg #[.int .i64 0, .int .i64 (-1)]) (by simp [results, Tryz.results43, go_sem, n0, n1]) rfl ?_
 exact ⟨rfl, hc1⟩
def RetRepR (r : RepR) (w : World) (en : Ending) (w' : World) : Prop :=
 Chg NoB w w' ∧ match r with
 | .ok l nx => ∃ v F, en = .returned (.tuple #[.agg #[.int .i64 0, .string rootName, .int .i64 1, .int .i64 0, v], .int .i64 nx, faultE 0 (-1)]) ∧ TrL w' w.heap.size l v F
 | .bad i e => en = .returned (.tuple #[zeroNode, .int .i64 0, faultE (edCode e) (i : Nat)])
 | .many => en = .returned (.tuple #[zeroNode, .int .i64 0, faultE 2 (-1)])
def RepInvR (es : List ByteArray) (w w1 : World) (gb : Nat) (vi : Value) (wr : World) : Prop :=
 ∃ (j : Nat) (l : List Nd) (nx : Int) (its : List It), j ≤ es.length ∧ vi = .int .i64 (j : Nat) ∧ replayF es = replayGo j (es.drop j) l nx ∧ Sound l nx ∧ 14 * (nx - 1) ≤ (((es.take j).map ByteArray.size).sum : Nat) ∧
  Rdy its l nx ∧ LogI wr gb its nx ∧ Chg (OneB gb) w1 wr
theorem code_go {i : Nat} {e : ByteArray} {es : List ByteArray} {l l' : List Nd} {nx nx' : Int} (h : editW (wordsB e) l nx = .ok l' nx') : (codeL l' = 0 → EStep e l nx l' nx') ∧ (codeL l' ≠ 0 → ∃ x, codeL l' = errNum (some x) ∧ replayGo i (e :: es) l nx = .bad i (.er x)) := by
 unfold codeL
 rw [replayGo, h]
 dsimp only
 cases hl : l'.isEmpty with
 | true =>
  simp only [if_true]
  exact ⟨fun _ => ⟨h, .inl (List.isEmpty_iff.1 hl)⟩, fun e => absurd rfl e⟩
 | false =>
  simp only [Bool.false_eq_true, if_false]
  cases hv : validF (rootNd l') with
  | none => exact ⟨fun _ => ⟨h, .inr (fit_iff_valid.1 hv)⟩, fun e => absurd rfl e⟩
  | some x => exact ⟨fun e => by have := (errNum_pos x).1; omega, fun _ => ⟨x, rfl, rfl⟩⟩
theorem edCode_pos (e : EdEr) : 0 < edCode e ∧ edCode e ≤ 100 := by
 cases e with
 | er e => exact errNum_pos e
 | non => exact ⟨by decide, by decide⟩
 | kind => exact ⟨by decide, by decide⟩
theorem replayR_any (es : List ByteArray) (v : Value) (w : World) (S : Nat → Prop) (hr : Reads w S (.list 1 (es.map fun x => .lit (.string x))) [v]) (hsum : (es.map ByteArray.size).sum ≤ 10000) :
  Calls Tryz.prog 23 #[v] w (RetRepR (replayF es) w) := by
 obtain ⟨a, c, rfl, hlc, hcm, hcell⟩ := list_cells hr
 unfold maxLen at hcm
 by_cases h60 : 60 < es.length
 ·have h60I : (60 : Int) < (es.length : Int) := by omega
  have hres : replayF es = .many := by unfold replayF; rw [if_pos h60]
  rw [hres]
  go_enter Tryz.func23, Tryz.ntmps23
  go_wp2_with fail
  generalize hw1 : World.alloc _ _ = w1
  have hc1 : Chg NoB w w1 := by
   rw [← hw1]
   repeat (first | exact Chg.refl _ _ | apply Chg.alloc | apply Chg.drew)
  have hr1 : Blk w1 (w.heap.size) (ndCells 0 ⟨#[]⟩ 0 0 (.slice none 0 0)) 28 := by
   rw [← hw1]
   repeat (first | exact Blk.newAt (by first | rfl | (simp; done) | (simp; omega)) | apply Blk.alloc | apply Blk.drew)
  have hf1 : Blk w1 (w.heap.size + 1) ([.int .i64 0, .int .i64 0]) 52 := by
   rw [← hw1]
   repeat (first | exact Blk.newAt (by first | rfl | (simp; done) | (simp; omega)) | apply Blk.alloc | apply Blk.drew)
  clear hw1
  refine (bareE_any 2 w1).mono ?_
  rintro en w2 ⟨rfl, hc2⟩
  unfold faultE
  have hr2 := hr1.keep hc2 nbE
  have hf2 := hf1.keep hc2 nbE
  have z0 : w2.frozen? ⟨w.heap.size, 0, none⟩ = false := hr2.free 0
  have z1 : w2.frozen? ⟨w.heap.size, 1, none⟩ = false := hr2.free 1
  have z2 : w2.frozen? ⟨w.heap.size, 2, none⟩ = false := hr2.free 2
  have z3 : w2.frozen? ⟨w.heap.size, 3, none⟩ = false := hr2.free 3
  have z4 : w2.frozen? ⟨w.heap.size, 4, none⟩ = false := hr2.free 4
  have y0 : w2.cell? ⟨w.heap.size, 0, none⟩ = some (.int .i64 (0)) := hr2.cell 0
  have y1 : w2.cell? ⟨w.heap.size, 1, none⟩ = some (.string ⟨#[]⟩) := hr2.cell 1
  have y2 : w2.cell? ⟨w.heap.size, 2, none⟩ = some (.int .i64 (0)) := hr2.cell 2
  have y3 : w2.cell? ⟨w.heap.size, 3, none⟩ = some (.int .i64 (0)) := hr2.cell 3
  have y4 : w2.cell? ⟨w.heap.size, 4, none⟩ = some (.slice none 0 0) := hr2.cell 4
  have f0 : (w2).cell? ⟨w.heap.size + 1, 0, none⟩ = some (.int .i64 0) := hf2.cell 0
  have f1 : (w2).cell? ⟨w.heap.size + 1, 1, none⟩ = some (.int .i64 0) := hf2.cell 1
  have k0 : (w2).frozen? ⟨w.heap.size + 1, 0, none⟩ = false := hf2.free 0
  have k1 : (w2).frozen? ⟨w.heap.size + 1, 1, none⟩ = false := hf2.free 1
  have lr := hr2.lt
  have lf := hf2.lt
  go_wp2_with fail
  have hrE := store5 hr2 (.int .i64 0) (.string ⟨#[]⟩) (.int .i64 0) (.int .i64 0) (.slice none 0 0)
  have hcE := store5_chg w2 w.heap.size (.int .i64 0) (.string ⟨#[]⟩) (.int .i64 0) (.int .i64 0) (.slice none 0 0)
  generalize World.setCell (World.setCell (World.setCell (World.setCell (World.setCell w2 ⟨w.heap.size, 0, none⟩ (.int .i64 0)) ⟨w.heap.size, 1, none⟩ (.string ⟨#[]⟩)) ⟨w.heap.size, 2, none⟩ (.int .i64 0)) ⟨w.heap.size, 3, none⟩ (.int .i64 0)) ⟨w.heap.size, 4, none⟩ (.slice none 0 0) = w8 at hrE hcE ⊢
  have hf8 := hf2.keep hcE (fun e => by have e : w.heap.size + 1 = w.heap.size := e; omega)
  have hf9 := (hf8.set 0 (.int .i64 (2))).set 1 (.int .i64 (-1))
  have hc9 := ((Chg.refl (OneB (w.heap.size + 1)) w8).setCell (p := ⟨w.heap.size + 1, 0, none⟩) (.inl rfl) (.int .i64 (2))).setCell (p := ⟨w.heap.size + 1, 1, none⟩) (.inl rfl) (.int .i64 (-1))
  simp only [qE, qF] at hf9
  generalize World.setCell (World.setCell w8 ⟨w.heap.size + 1, 0, none⟩ (.int .i64 (2))) ⟨w.heap.size + 1, 1, none⟩ (.int .i64 (-1)) = w9 at hf9 hc9 ⊢
  have hr9 := hrE.keep hc9 (fun e => by have e : w.heap.size = w.heap.size + 1 := e; omega)
  have n0 : w9.cell? ⟨w.heap.size, 0, none⟩ = some (.int .i64 (0)) := hr9.cell 0
  have n1 : w9.cell? ⟨w.heap.size, 1, none⟩ = some (.string ⟨#[]⟩) := hr9.cell 1
  have n2 : w9.cell? ⟨w.heap.size, 2, none⟩ = some (.int .i64 (0)) := hr9.cell 2
  have n3 : w9.cell? ⟨w.heap.size, 3, none⟩ = some (.int .i64 (0)) := hr9.cell 3
  have n4 : w9.cell? ⟨w.heap.size, 4, none⟩ = some (.slice none 0 0) := hr9.cell 4
  have m0 : w9.cell? ⟨w.heap.size + 1, 0, none⟩ = some (.int .i64 (2)) := hf9.cell 0
  have m1 : w9.cell? ⟨w.heap.size + 1, 1, none⟩ = some (.int .i64 (-1)) := hf9.cell 1
  refine bodyPost_ret (v := .tuple #[zeroNode, .int .i64 0, faultE (2) (-1)]) (by simp [results, Tryz.results23, go_sem, n0, n1, n2, n3, n4, m0, m1, zeroNode, faultE]) rfl ?_
  have hcw9 : Chg NoB w w9 := ((hc1.tr hc2).trans' hcE (fun y e => by have e : y = w.heap.size := e; omega)).trans' hc9 (fun y e => by have e : y = w.heap.size + 1 := e; omega)
  exact ⟨hcw9, rfl⟩
 ·have h60I : ¬ (60 : Int) < (es.length : Int) := by omega
  have hrep : replayF es = replayGo 0 es [] 1 := by unfold replayF; rw [if_neg h60]
  have Hrep := Lib.hid hrep
  clear hrep
  go_enter Tryz.func23, Tryz.ntmps23
  go_wp2_with fail
  generalize hw1 : World.alloc _ _ = w1
  have hc1 : Chg NoB w w1 := by
   rw [← hw1]
   repeat (first | exact Chg.refl _ _ | apply Chg.alloc | apply Chg.drew)
  have hr1 : Blk w1 (w.heap.size) (ndCells 0 ⟨#[]⟩ 0 0 (.slice none 0 0)) 28 := by
   rw [← hw1]
   repeat (first | exact Blk.newAt (by first | rfl | (simp; done) | (simp; omega)) | apply Blk.alloc | apply Blk.drew)
  have hf1 : Blk w1 (w.heap.size + 1) ([.int .i64 0, .int .i64 0]) 52 := by
   rw [← hw1]
   repeat (first | exact Blk.newAt (by first | rfl | (simp; done) | (simp; omega)) | apply Blk.alloc | apply Blk.drew)
  have hg1 : Blk w1 (w.heap.size + 2) ([.slice none 0 0, .int .i64 1]) 86 := by
   rw [← hw1]
   repeat (first | exact Blk.newAt (by first | rfl | (simp; done) | (simp; omega)) | apply Blk.alloc | apply Blk.drew)
  clear hw1
  have hr1l := hr1.lt
  have hf1l := hf1.lt
  have hg1l := hg1.lt
  go_loopw [6] (fun vi wr => RepInvR es w w1 (w.heap.size + 2) vi wr) (fun vi _ => es.length - (intOf vi).toNat)
  case atStart =>
   exact ⟨0, [], 1, [], Nat.zero_le _, rfl, Hrep.out, sound0, by simp, rdy_nil, ⟨_, hg1, ⟨⟨none, 0, rfl, Nat.le_refl _, Nat.zero_le _, .inl ⟨rfl, fun _ => rfl⟩⟩, Nat.zero_le _⟩⟩, Chg.refl _ _⟩
  case round =>
   obtain ⟨j, l, nx, its, hj, rfl, hgo, hS, hnx, hR, hL, hcr⟩ := hrel
   have hcw : Chg NoB w wr := hc1.trans' hcr (fun y e => by have e : y = w.heap.size + 2 := e; omega)
   by_cases hlt2 : j < es.length
   ·have hltI : (j : Int) < (es.length : Int) := by omega
    obtain ⟨b, off, rfl, hSb, hbw, hE⟩ := hcell (by omega)
    have hej := hE j es[j] (List.getElem?_eq_getElem hlt2)
    have hdrop : es.drop j = es[j] :: es.drop (j + 1) := List.drop_eq_getElem_cons hlt2
    have htake : es.take (j + 1) = es.take j ++ [es[j]] := List.take_succ_eq_append_getElem hlt2
    have hsz : es[j].size ≤ 10000 := Nat.le_trans (le_sum (List.mem_map_of_mem (List.getElem_mem hlt2))) hsum
    have hsumj : ((es.take j).map ByteArray.size).sum ≤ 10000 := Nat.le_trans (take_sum es j) hsum
    generalize es[j] = ej at hej hdrop htake hsz
    rw [hdrop] at hgo
    have e1 := (hcw.cell (p := ⟨b, off + j, none⟩) hbw nbE).trans hej
    have hfw : Nd.weighs l ≤ 39 := by
     rcases hS.fit with rfl | hf
     ·exact Nat.zero_le _
     ·exact hf.small
    have hslim : Nd.Alls Slim l := by
     rcases hS.fit with rfl | hf
     ·trivial
     ·exact slim_fit hf
    have hp1 := hS.pos
    have hed := editR_any ej its l nx (w.heap.size + 2) wr ⟨hsz, hR, hslim, hfw, ⟨hp1, by omega⟩, hS.ids, hL⟩
    have Hgo := Lib.hid hgo
    have Htake := Lib.hid htake
    have HS := Lib.hid hS
    have Hnx := Lib.hid hnx
    clear hgo hdrop htake hS hnx hE hej hR hL hslim hfw
    go_wp2_with fail
    refine hed.mono ?_
    clear hed
    rintro en w2 ⟨hc2, h2⟩
    obtain ⟨rr, hrr⟩ : ∃ x, x = editW (wordsB ej) l nx := ⟨_, rfl⟩
    rw [← hrr] at h2
    have Hrr := Lib.hid hrr
    clear hrr
    have hcr2 : Chg (OneB (w.heap.size + 2)) w1 w2 := hcr.trans hc2 (fun _ e => .inl e)
    have hcw2 : Chg NoB w w2 := hc1.trans' hcr2 (fun y e => by have e : y = w.heap.size + 2 := e; omega)
    have hr2 := hr1.keep hcr2 (fun e => by have e : w.heap.size = w.heap.size + 2 := e; omega)
    have hf2 := hf1.keep hcr2 (fun e => by have e : w.heap.size + 1 = w.heap.size + 2 := e; omega)
    cases rr with
    | bad e =>
     obtain rfl := h2
     have hpos := edCode_pos e
     have hres : replayF es = .bad j e := by
      rw [Hgo.out, replayGo, ← Hrr.out]
     have Hres := Lib.hid hres
     clear hres
     have hce : 0 < edCode e := hpos.1
     have hce2 : RetRepR (.bad j e) w (.returned (.tuple #[zeroNode, .int .i64 0, faultE (edCode e) (j : Nat)])) = fun w' => Chg NoB w w' ∧ True := by
      funext w'; unfold RetRepR; simp
     have Hce2 := Lib.hid hce2
     generalize edCode e = ce at hce Hce2 ⊢
     have z0 : w2.frozen? ⟨w.heap.size, 0, none⟩ = false := hr2.free 0
     have z1 : w2.frozen? ⟨w.heap.size, 1, none⟩ = false := hr2.free 1
     have z2 : w2.frozen? ⟨w.heap.size, 2, none⟩ = false := hr2.free 2
     have z3 : w2.frozen? ⟨w.heap.size, 3, none⟩ = false := hr2.free 3
     have z4 : w2.frozen? ⟨w.heap.size, 4, none⟩ = false := hr2.free 4
     have y0 : w2.cell? ⟨w.heap.size, 0, none⟩ = some (.int .i64 (0)) := hr2.cell 0
     have y1 : w2.cell? ⟨w.heap.size, 1, none⟩ = some (.string ⟨#[]⟩) := hr2.cell 1
     have y2 : w2.cell? ⟨w.heap.size, 2, none⟩ = some (.int .i64 (0)) := hr2.cell 2
     have y3 : w2.cell? ⟨w.heap.size, 3, none⟩ = some (.int .i64 (0)) := hr2.cell 3
     have y4 : w2.cell? ⟨w.heap.size, 4, none⟩ = some (.slice none 0 0) := hr2.cell 4
     have f0 : (w2).cell? ⟨w.heap.size + 1, 0, none⟩ = some (.int .i64 0) := hf2.cell 0
     have f1 : (w2).cell? ⟨w.heap.size + 1, 1, none⟩ = some (.int .i64 0) := hf2.cell 1
     have k0 : (w2).frozen? ⟨w.heap.size + 1, 0, none⟩ = false := hf2.free 0
     have k1 : (w2).frozen? ⟨w.heap.size + 1, 1, none⟩ = false := hf2.free 1
     have lr := hr2.lt
     have lf := hf2.lt
     clear hpos hce2
     go_wp2_with fail
     have hrE := store5 hr2 (.int .i64 0) (.string ⟨#[]⟩) (.int .i64 0) (.int .i64 0) (.slice none 0 0)
     have hcE := store5_chg w2 w.heap.size (.int .i64 0) (.string ⟨#[]⟩) (.int .i64 0) (.int .i64 0) (.slice none 0 0)
     generalize World.setCell (World.setCell (World.setCell (World.setCell (World.setCell w2 ⟨w.heap.size, 0, none⟩ (.int .i64 0)) ⟨w.heap.size, 1, none⟩ (.string ⟨#[]⟩)) ⟨w.heap.size, 2, none⟩ (.int .i64 0)) ⟨w.heap.size, 3, none⟩ (.int .i64 0)) ⟨w.heap.size, 4, none⟩ (.slice none 0 0) = w8 at hrE hcE ⊢
     have hf8 := hf2.keep hcE (fun e => by have e : w.heap.size + 1 = w.heap.size := e; omega)
     have hf9 := (hf8.set 0 (.int .i64 (ce))).set 1 (.int .i64 ((j : Int)))
     have hc9 := ((Chg.refl (OneB (w.heap.size + 1)) w8).setCell (p := ⟨w.heap.size + 1, 0, none⟩) (.inl rfl) (.int .i64 (ce))).setCell (p := ⟨w.heap.size + 1, 1, none⟩) (.inl rfl) (.int .i64 ((j : Int)))
     simp only [qE, qF] at hf9
     generalize World.setCell (World.setCell w8 ⟨w.heap.size + 1, 0, none⟩ (.int .i64 (ce))) ⟨w.heap.size + 1, 1, none⟩ (.int .i64 ((j : Int))) = w9 at hf9 hc9 ⊢
     have hr9 := hrE.keep hc9 (fun e => by have e : w.heap.size = w.heap.size + 1 := e; omega)
     have n0 : w9.cell? ⟨w.heap.size, 0, none⟩ = some (.int .i64 (0)) := hr9.cell 0
     have n1 : w9.cell? ⟨w.heap.size, 1, none⟩ = some (.string ⟨#[]⟩) := hr9.cell 1
     have n2 : w9.cell? ⟨w.heap.size, 2, none⟩ = some (.int .i64 (0)) := hr9.cell 2
     have n3 : w9.cell? ⟨w.heap.size, 3, none⟩ = some (.int .i64 (0)) := hr9.cell 3
     have n4 : w9.cell? ⟨w.heap.size, 4, none⟩ = some (.slice none 0 0) := hr9.cell 4
     have m0 : w9.cell? ⟨w.heap.size + 1, 0, none⟩ = some (.int .i64 (ce)) := hf9.cell 0
     have m1 : w9.cell? ⟨w.heap.size + 1, 1, none⟩ = some (.int .i64 ((j : Int))) := hf9.cell 1
     refine bodyPost_ret (v := .tuple #[zeroNode, .int .i64 0, faultE (ce) ((j : Int))]) (by simp [results, Tryz.results23, go_sem, n0, n1, n2, n3, n4, m0, m1, zeroNode, faultE]) rfl ?_
     have hcw9 : Chg NoB w w9 := (hcw2.trans' hcE (fun y e => by have e : y = w.heap.size := e; omega)).trans' hc9 (fun y e => by have e : y = w.heap.size + 1 := e; omega)
     rw [Hres.out]
     exact (congrFun Hce2.out w9).mpr ⟨hcw9, True.intro⟩
    | ok l' nx' =>
     obtain ⟨rfl, h3⟩ := h2
     obtain ⟨q1, q2⟩ := code_go (i := j) (es := es.drop (j + 1)) Hrr.out.symm
     by_cases hz : codeL l' = 0
     ·obtain ⟨its', hL', hR'⟩ := h3 hz
      have hst := q1 hz
      rw [hz]
      have hstep := HS.out.step hst
      have Hst := Lib.hid hst
      have Hstep := Lib.hid hstep
      clear hst hstep q1 q2 hz h3
      go_wp2_with fail
      go_roundw
      case rel =>
       refine ⟨j + 1, l', nx', its', hlt2, by go_num, by rw [Hgo.out, replay_step Hst.out], Hstep.out.1, ?_, hR', hL', hcr2⟩
       have h1 := Hstep.out.2.2
       have h2 := Hnx.out
       rw [Htake.out, List.map_append, List.sum_append]
       simp only [List.map_cons, List.map_nil, List.sum_cons, List.sum_nil]
       omega
      case measure => simp [intOf]; omega
     ·obtain ⟨x, hx1, hx2⟩ := q2 hz
      have hpos := errNum_pos x
      rw [hx1]
      have hres : replayF es = .bad j (.er x) := Hgo.out.trans hx2
      have Hres := Lib.hid hres
      have hce2 : RetRepR (.bad j (.er x)) w (.returned (.tuple #[zeroNode, .int .i64 0, faultE (errNum (some x)) (j : Nat)])) = fun w' => Chg NoB w w' ∧ True := by
       funext w'; unfold RetRepR; simp [edCode]
      have Hce2 := Lib.hid hce2
      have hce : 0 < errNum (some x) := hpos.1
      generalize errNum (some x) = ce at hce Hce2 ⊢
      have z0 : w2.frozen? ⟨w.heap.size, 0, none⟩ = false := hr2.free 0
      have z1 : w2.frozen? ⟨w.heap.size, 1, none⟩ = false := hr2.free 1
      have z2 : w2.frozen? ⟨w.heap.size, 2, none⟩ = false := hr2.free 2
      have z3 : w2.frozen? ⟨w.heap.size, 3, none⟩ = false := hr2.free 3
      have z4 : w2.frozen? ⟨w.heap.size, 4, none⟩ = false := hr2.free 4
      have y0 : w2.cell? ⟨w.heap.size, 0, none⟩ = some (.int .i64 (0)) := hr2.cell 0
      have y1 : w2.cell? ⟨w.heap.size, 1, none⟩ = some (.string ⟨#[]⟩) := hr2.cell 1
      have y2 : w2.cell? ⟨w.heap.size, 2, none⟩ = some (.int .i64 (0)) := hr2.cell 2
      have y3 : w2.cell? ⟨w.heap.size, 3, none⟩ = some (.int .i64 (0)) := hr2.cell 3
      have y4 : w2.cell? ⟨w.heap.size, 4, none⟩ = some (.slice none 0 0) := hr2.cell 4
      have f0 : (w2).cell? ⟨w.heap.size + 1, 0, none⟩ = some (.int .i64 0) := hf2.cell 0
      have f1 : (w2).cell? ⟨w.heap.size + 1, 1, none⟩ = some (.int .i64 0) := hf2.cell 1
      have k0 : (w2).frozen? ⟨w.heap.size + 1, 0, none⟩ = false := hf2.free 0
      have k1 : (w2).frozen? ⟨w.heap.size + 1, 1, none⟩ = false := hf2.free 1
      have lr := hr2.lt
      have lf := hf2.lt
      clear hres hx2 hx1 q1 q2 hz h3 hpos hce2
      go_wp2_with fail
      have hrE := store5 hr2 (.int .i64 0) (.string ⟨#[]⟩) (.int .i64 0) (.int .i64 0) (.slice none 0 0)
      have hcE := store5_chg w2 w.heap.size (.int .i64 0) (.string ⟨#[]⟩) (.int .i64 0) (.int .i64 0) (.slice none 0 0)
      generalize World.setCell (World.setCell (World.setCell (World.setCell (World.setCell w2 ⟨w.heap.size, 0, none⟩ (.int .i64 0)) ⟨w.heap.size, 1, none⟩ (.string ⟨#[]⟩)) ⟨w.heap.size, 2, none⟩ (.int .i64 0)) ⟨w.heap.size, 3, none⟩ (.int .i64 0)) ⟨w.heap.size, 4, none⟩ (.slice none 0 0) = w8 at hrE hcE ⊢
      have hf8 := hf2.keep hcE (fun e => by have e : w.heap.size + 1 = w.heap.size := e; omega)
      have hf9 := (hf8.set 0 (.int .i64 (ce))).set 1 (.int .i64 ((j : Int)))
      have hc9 := ((Chg.refl (OneB (w.heap.size + 1)) w8).setCell (p := ⟨w.heap.size + 1, 0, none⟩) (.inl rfl) (.int .i64 (ce))).setCell (p := ⟨w.heap.size + 1, 1, none⟩) (.inl rfl) (.int .i64 ((j : Int)))
      simp only [qE, qF] at hf9
      generalize World.setCell (World.setCell w8 ⟨w.heap.size + 1, 0, none⟩ (.int .i64 (ce))) ⟨w.heap.size + 1, 1, none⟩ (.int .i64 ((j : Int))) = w9 at hf9 hc9 ⊢
      have hr9 := hrE.keep hc9 (fun e => by have e : w.heap.size = w.heap.size + 1 := e; omega)
      have n0 : w9.cell? ⟨w.heap.size, 0, none⟩ = some (.int .i64 (0)) := hr9.cell 0
      have n1 : w9.cell? ⟨w.heap.size, 1, none⟩ = some (.string ⟨#[]⟩) := hr9.cell 1
      have n2 : w9.cell? ⟨w.heap.size, 2, none⟩ = some (.int .i64 (0)) := hr9.cell 2
      have n3 : w9.cell? ⟨w.heap.size, 3, none⟩ = some (.int .i64 (0)) := hr9.cell 3
      have n4 : w9.cell? ⟨w.heap.size, 4, none⟩ = some (.slice none 0 0) := hr9.cell 4
      have m0 : w9.cell? ⟨w.heap.size + 1, 0, none⟩ = some (.int .i64 (ce)) := hf9.cell 0
      have m1 : w9.cell? ⟨w.heap.size + 1, 1, none⟩ = some (.int .i64 ((j : Int))) := hf9.cell 1
      refine bodyPost_ret (v := .tuple #[zeroNode, .int .i64 0, faultE (ce) ((j : Int))]) (by simp [results, Tryz.results23, go_sem, n0, n1, n2, n3, n4, m0, m1, zeroNode, faultE]) rfl ?_
      have hcw9 : Chg NoB w w9 := (hcw2.trans' hcE (fun y e => by have e : y = w.heap.size := e; omega)).trans' hc9 (fun y e => by have e : y = w.heap.size + 1 := e; omega)
      rw [Hres.out]
      exact (congrFun Hce2.out w9).mpr ⟨hcw9, True.intro⟩
   ·have hltI : ¬ (j : Int) < (es.length : Int) := by omega
    have hdrop : es.drop j = [] := List.drop_eq_nil_of_le (by omega)
    rw [hdrop] at hgo
    have hres : replayF es = .ok l nx := hgo
    have Hres := Lib.hid hres
    have hund := (hR.becF (k := nx.toNat) (by omega)).1
    have Hund := Lib.hid hund
    have hrr := hr1.keep hcr (fun e => by have e : w.heap.size = w.heap.size + 2 := e; omega)
    have hfr := hf1.keep hcr (fun e => by have e : w.heap.size + 1 = w.heap.size + 2 := e; omega)
    obtain ⟨lv, hbL, hIL⟩ := hL
    have hnode := fun w' (h : Chg NoB wr w') => nodeOf_any its nx hR.grow lv _ nx.toNat w' (hIL.keep h (fun _ _ => nbE)) (by omega)
    obtain ⟨la, lc, rfl, _, _, _⟩ := hIL.form
    have Hnode := Lib.hid hnode
    have hbLl := hbL.lt
    have g0 : wr.cell? ⟨w.heap.size + 2, 0, none⟩ = some (.slice la its.length lc) := hbL.cell 0
    have g1 : wr.cell? ⟨w.heap.size + 2, 1, none⟩ = some (.int .i64 nx) := hbL.cell 1
    clear hres hgo hdrop hund hnode hIL hR hS hnx
    go_wp2_with fail
    refine wp_region_n (fun w' => w'.cell? ⟨w.heap.size + 2, 0, none⟩ = some (.slice la its.length lc) ∧ w'.cell? ⟨w.heap.size + 2, 1, none⟩ = some (.int .i64 nx)) [] (by kernel_rfl) ?_ (fun hSh => ?_)
    ·exact ⟨g0, g1⟩
    refine n_from 0 ?_
    intro htk
    iterate 4
     refine n_tB (v := ?_) htk rfl (Or.inl ⟨by rfl, ?_⟩) ?_
     rotate_left 1
     ·(intro w' hSw; (try dsimp only at hSw); go_simp; try with_reducible rfl)
     clear htk
     intro htk
     simp only [Nat.reduceAdd] at htk
     simp only [Act.put, qA, qB, qC, qD, qE, qF]
    clear htk
    refine n_from 5 ?_
    intro htk
    iterate 4
     refine n_tB (v := ?_) htk rfl (Or.inl ⟨by rfl, ?_⟩) ?_
     rotate_left 1
     ·(intro w' hSw; (try dsimp only at hSw); go_simp; try with_reducible rfl)
     clear htk
     intro htk
     simp only [Nat.reduceAdd] at htk
     simp only [Act.put, qA, qB, qC, qD, qE, qF]
    clear htk
    refine n_step 4 rfl (by kernel_rfl) ?_
    go_wp2_with fail
    refine (Hnode.out _ (Chg.refl NoB wr).drew).mono ?_
    rintro en w3 ⟨vs, F, rfl, ht3, hF3, hc3⟩
    rw [Hund.out] at ht3
    obtain ⟨sa, sc, rfl, _, _⟩ := ht3.form
    replace hc3 := hc3.ofDrew
    go_wp2_with fail
    refine ⟨fun _ => ?_, fun hSk => ?_⟩
    ·(repeat' refine And.intro ?_ ?_) <;> exact (hc3.cell (by first | assumption | (simp; done) | (simp; omega) | omega) nbE).trans (by assumption)
    replace hSk := hSk (by rfl)
    refine n_step 9 rfl (by kernel_rfl) ?_
    go_wp2_with fail
    refine (fineE_any w3).mono ?_
    rintro en w4 ⟨rfl, hc4⟩
    unfold faultE
    have hc34 := hc3.tr hc4
    go_wp2_with fail
    refine ⟨fun _ => ?_, fun hSk => ?_⟩
    ·(repeat' refine And.intro ?_ ?_) <;> exact (hc34.cell (by first | assumption | (simp; done) | (simp; omega) | omega) nbE).trans (by assumption)
    replace hSk := hSk (by rfl)
    have hr4 := hrr.keep hc34 nbE
    have hf4 := hfr.keep hc34 nbE
    have z0 : w4.frozen? ⟨w.heap.size, 0, none⟩ = false := hr4.free 0
    have z1 : w4.frozen? ⟨w.heap.size, 1, none⟩ = false := hr4.free 1
    have z2 : w4.frozen? ⟨w.heap.size, 2, none⟩ = false := hr4.free 2
    have z3 : w4.frozen? ⟨w.heap.size, 3, none⟩ = false := hr4.free 3
    have z4 : w4.frozen? ⟨w.heap.size, 4, none⟩ = false := hr4.free 4
    have y0 : w4.cell? ⟨w.heap.size, 0, none⟩ = some (.int .i64 (0)) := hr4.cell 0
    have y1 : w4.cell? ⟨w.heap.size, 1, none⟩ = some (.string ⟨#[]⟩) := hr4.cell 1
    have y2 : w4.cell? ⟨w.heap.size, 2, none⟩ = some (.int .i64 (0)) := hr4.cell 2
    have y3 : w4.cell? ⟨w.heap.size, 3, none⟩ = some (.int .i64 (0)) := hr4.cell 3
    have y4 : w4.cell? ⟨w.heap.size, 4, none⟩ = some (.slice none 0 0) := hr4.cell 4
    have f0 : (w4).cell? ⟨w.heap.size + 1, 0, none⟩ = some (.int .i64 0) := hf4.cell 0
    have f1 : (w4).cell? ⟨w.heap.size + 1, 1, none⟩ = some (.int .i64 0) := hf4.cell 1
    have k0 : (w4).frozen? ⟨w.heap.size + 1, 0, none⟩ = false := hf4.free 0
    have k1 : (w4).frozen? ⟨w.heap.size + 1, 1, none⟩ = false := hf4.free 1
    have lr := hr4.lt
    have lf := hf4.lt
    refine n_step 10 rfl (by kernel_rfl) ?_
    go_wp2_with fail
    have hrE := store5 hr4 (.int .i64 0) (.string rootName) (.int .i64 1) (.int .i64 0) (.slice sa l.length sc)
    have hcE := store5_chg w4 w.heap.size (.int .i64 0) (.string rootName) (.int .i64 1) (.int .i64 0) (.slice sa l.length sc)
    generalize World.setCell (World.setCell (World.setCell (World.setCell (World.setCell w4 ⟨w.heap.size, 0, none⟩ (.int .i64 0)) ⟨w.heap.size, 1, none⟩ (.string rootName)) ⟨w.heap.size, 2, none⟩ (.int .i64 1)) ⟨w.heap.size, 3, none⟩ (.int .i64 0)) ⟨w.heap.size, 4, none⟩ (.slice sa l.length sc) = w8 at hrE hcE ⊢
    have hg8 : w8.cell? ⟨w.heap.size + 2, 0, none⟩ = some (.slice la its.length lc) ∧ w8.cell? ⟨w.heap.size + 2, 1, none⟩ = some (.int .i64 nx) :=
     ⟨(hcE.cell (lt_of_cell hSk.1) (fun e => by have e : w.heap.size + 2 = w.heap.size := e; omega)).trans hSk.1, (hcE.cell (lt_of_cell hSk.2) (fun e => by have e : w.heap.size + 2 = w.heap.size := e; omega)).trans hSk.2⟩
    refine ⟨fun _ => hg8, fun hSk2 => ?_⟩
    replace hSk2 := hSk2 (by rfl)
    refine n_tA (v := ?_) 11 rfl (Or.inl ⟨by rfl, ?_⟩) ?_
    rotate_left 1
    ·(intro w' hSw; (try dsimp only at hSw); go_simp; try with_reducible rfl)
    simp only [Act.put, qA, qB, qC, qD, qE, qF]
    have hf8 := hf4.keep hcE (fun e => by have e : w.heap.size + 1 = w.heap.size := e; omega)
    have f0 : w8.cell? ⟨w.heap.size + 1, 0, none⟩ = some (.int .i64 0) := hf8.cell 0
    have f1 : w8.cell? ⟨w.heap.size + 1, 1, none⟩ = some (.int .i64 0) := hf8.cell 1
    have k0 : w8.frozen? ⟨w.heap.size + 1, 0, none⟩ = false := hf8.free 0
    have k1 : w8.frozen? ⟨w.heap.size + 1, 1, none⟩ = false := hf8.free 1
    have lf8 := hf8.lt
    refine n_step 12 rfl (by kernel_rfl) ?_
    go_wp2_with fail
    have hf9 := (hf8.set 0 (.int .i64 0)).set 1 (.int .i64 (-1))
    have hc9 := ((Chg.refl (OneB (w.heap.size + 1)) w8).setCell (p := ⟨w.heap.size + 1, 0, none⟩) (.inl rfl) (.int .i64 0)).setCell (p := ⟨w.heap.size + 1, 1, none⟩) (.inl rfl) (.int .i64 (-1))
    simp only [qE, qF] at hf9
    generalize World.setCell (World.setCell w8 ⟨w.heap.size + 1, 0, none⟩ (.int .i64 0)) ⟨w.heap.size + 1, 1, none⟩ (.int .i64 (-1)) = w9 at hf9 hc9 ⊢
    have hr9 := hrE.keep hc9 (fun e => by have e : w.heap.size = w.heap.size + 1 := e; omega)
    refine ⟨fun _ => ⟨(hc9.cell (lt_of_cell hg8.1) (fun e => by have e : w.heap.size + 2 = w.heap.size + 1 := e; omega)).trans hg8.1, (hc9.cell (lt_of_cell hg8.2) (fun e => by have e : w.heap.size + 2 = w.heap.size + 1 := e; omega)).trans hg8.2⟩, fun _ => ?_⟩
    refine n_done (by kernel_rfl) ?_
    have n0 : w9.cell? ⟨w.heap.size, 0, none⟩ = some (.int .i64 (0)) := hr9.cell 0
    have n1 : w9.cell? ⟨w.heap.size, 1, none⟩ = some (.string rootName) := hr9.cell 1
    have n2 : w9.cell? ⟨w.heap.size, 2, none⟩ = some (.int .i64 (1)) := hr9.cell 2
    have n3 : w9.cell? ⟨w.heap.size, 3, none⟩ = some (.int .i64 (0)) := hr9.cell 3
    have n4 : w9.cell? ⟨w.heap.size, 4, none⟩ = some (.slice sa l.length sc) := hr9.cell 4
    have m0 : w9.cell? ⟨w.heap.size + 1, 0, none⟩ = some (.int .i64 0) := hf9.cell 0
    have m1 : w9.cell? ⟨w.heap.size + 1, 1, none⟩ = some (.int .i64 (-1)) := hf9.cell 1
    go_wp2_with fail
    refine bodyPost_ret (v := .tuple #[.agg #[.int .i64 0, .string rootName, .int .i64 1, .int .i64 0, .slice sa l.length sc], .int .i64 nx, faultE 0 (-1)]) (by simp [results, Tryz.results23, go_sem, n0, n1, n2, n3, n4, m0, m1, faultE]) rfl ?_
    rw [Hres.out]
    have hc49 : Chg (fun y => y = w.heap.size ∨ y = w.heap.size + 1) w4 w9 := (hcE.mono (fun _ _ e => .inl e)).trans hc9 (fun y e => .inl (.inr e))
    have hdz := ((Chg.refl NoB wr).drew).size
    have ht9 := ht3.keep (fun x hx => ((hc4.block x (ht3.lt x hx).2 nbE).symm ▸ hc49.block x (Nat.lt_of_lt_of_le (ht3.lt x hx).2 hc4.size) (fun e => by have h1 := (ht3.lt x hx).1; have h2 := hbLl; rcases e with e | e <;> omega)))
    refine ⟨?_, _, F, rfl, ht9.mono (Nat.le_trans hcw.size hdz)⟩
    have h1 : Chg NoB w w4 := hcw.tr hc34
    exact h1.trans' hc49 (fun y e => by rcases e with e | e <;> omega)
end Go.Proofs.YtgcmfpcgmkkobaaGreatDoor
