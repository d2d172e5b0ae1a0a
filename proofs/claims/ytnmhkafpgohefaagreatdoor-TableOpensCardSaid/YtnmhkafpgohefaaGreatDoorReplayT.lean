/-
  evolve's Replay: any edits.
-/
import Derived.Test.YtnmhkafpgohefaaGreatDoorEditAll
import Derived.Test.YtnmhkafpgohefaaGreatDoorTabNew
set_option linter.unusedVariables false
set_option maxHeartbeats 20000000
set_option maxRecDepth 100000
set_option linter.unusedSimpArgs false
namespace Go.Proofs.YtnmhkafpgohefaaGreatDoor
open Go.RowKit
def RetRepT (E : Er → Value) (N K : Value) (r : RepR) (w : World) (en : Ending) (w' : World) : Prop :=
 Chg NoB w w' ∧ match r with
 | .ok l nx => ∃ v F, en = .returned (.tuple #[.agg #[.int .i64 0, .string rootName, .int .i64 1, .int .i64 0, v], .int .i64 nx, .nilIface]) ∧ TrL w' w.heap.size l v F ∧ F.Nodup
 | .bad i e => ∃ fv, en = .returned (.tuple #[zeroNode, .int .i64 0, fv]) ∧ FaultAt w' (edVal E N K e) i fv
 | .many => en = .returned (.tuple #[zeroNode, .int .i64 0, E .bound])
def RepInv (es : List ByteArray) (w w1 : World) (vi : Value) (wr : World) : Prop :=
 ∃ (j : Nat) (l : List Nd) (nx : Int) (F : List Nat), j ≤ es.length ∧ vi = .int .i64 (j : Nat) ∧ replayF es = replayGo j (es.drop j) l nx ∧ Sound l nx ∧ 14 * (nx - 1) ≤ (((es.take j).map ByteArray.size).sum : Nat) ∧
  LogSt wr w.heap.size (w.heap.size + 1) l nx F ∧ (∀ x ∈ F, w1.heap.size ≤ x) ∧ Chg (OneB (w.heap.size + 1)) w1 wr
theorem edVal_form {E : Er → Value} {N K : Value} {B0 : Nat} {m : Int} {w : World} (hG : EvG B0 E N K m w) (e : EdEr) : ∃ T u, edVal E N K e = .iface T u := by
 cases e with
 | er e => exact hG.glo.errs.form e
 | non => exact hG.nform
 | kind => exact hG.kform
theorem EvG.up {B B' : Nat} {E : Er → Value} {N K : Value} {m : Int} {w : World} (h : EvG B E N K m w) (hB : B ≤ B') : EvG B' E N K m w :=
 ⟨h.glo.up hB, h.non, h.kind, h.max, h.asc, ⟨by have := h.below.1; omega, by have := h.below.2.1; omega, by have := h.below.2.2.1; omega, by have := h.below.2.2.2; omega⟩, h.nform, h.kform⟩
theorem le_sum : ∀ {l : List Nat} {x : Nat}, x ∈ l → x ≤ l.sum
 | [], _, h => by cases h
 | y :: ys, x, h => by
  rw [List.sum_cons]
  rcases List.mem_cons.1 h with rfl | h
  ·omega
  ·have := le_sum h; omega
theorem take_sum : ∀ (l : List ByteArray) (j : Nat), ((l.take j).map ByteArray.size).sum ≤ (l.map ByteArray.size).sum
 | [], j => by simp
 | x :: xs, 0 => by simp
 | x :: xs, j + 1 => by
  have := take_sum xs j
  simp only [List.take_succ_cons, List.map_cons, List.sum_cons]
  omega
theorem replay_any (es : List ByteArray) (v : Value) (w : World) (S : Nat → Prop) (E : Er → Value) (N K : Value) (m : Int) (hG : EvG w.heap.size E N K m w) (hr : Reads w S (.list 1 (es.map fun x => .lit (.string x))) [v]) (hsum : (es.map ByteArray.size).sum ≤ 10000) :
  Calls Tryz.prog 16 #[v] w (RetRepT E N K (replayF es) w) := by
 obtain ⟨a, c, rfl, hlc, hcm, hcell⟩ := list_cells hr
 have hlt : ∀ p u, w.cell? p = some u → p.block < w.heap.size := fun p u h => lt_of_cell h
 unfold maxLen at hcm
 by_cases h60 : 60 < es.length
 ·have h60I : (60 : Int) < (es.length : Int) := by omega
  have hres : replayF es = .many := by unfold replayF; rw [if_pos h60]
  rw [hres]
  obtain ⟨Tb, ub, hEb⟩ := hG.glo.errs.form .bound
  go_enter Tryz.func16, Tryz.ntmps16
  go_wp2_with fail
  generalize hw1 : World.alloc _ _ = w1
  have hc1 : Chg NoB w w1 := by
   rw [← hw1]
   repeat (first | exact Chg.refl _ _ | apply Chg.alloc | apply Chg.drew)
  have hr1 : Blk w1 (w.heap.size) (ndCells 0 ⟨#[]⟩ 0 0 (.slice none 0 0)) 56 := by
   rw [← hw1]
   repeat (first | exact Blk.newAt (by first | rfl | (simp; done) | (simp; omega)) | apply Blk.alloc | apply Blk.drew)
  clear hw1
  have z0 : w1.frozen? ⟨w.heap.size, 0, none⟩ = false := hr1.free 0
  have z1 : w1.frozen? ⟨w.heap.size, 1, none⟩ = false := hr1.free 1
  have z2 : w1.frozen? ⟨w.heap.size, 2, none⟩ = false := hr1.free 2
  have z3 : w1.frozen? ⟨w.heap.size, 3, none⟩ = false := hr1.free 3
  have z4 : w1.frozen? ⟨w.heap.size, 4, none⟩ = false := hr1.free 4
  have y0 : w1.cell? ⟨w.heap.size, 0, none⟩ = some (.int .i64 (0)) := hr1.cell 0
  have y1 : w1.cell? ⟨w.heap.size, 1, none⟩ = some (.string ⟨#[]⟩) := hr1.cell 1
  have y2 : w1.cell? ⟨w.heap.size, 2, none⟩ = some (.int .i64 (0)) := hr1.cell 2
  have y3 : w1.cell? ⟨w.heap.size, 3, none⟩ = some (.int .i64 (0)) := hr1.cell 3
  have y4 : w1.cell? ⟨w.heap.size, 4, none⟩ = some (.slice none 0 0) := hr1.cell 4
  have lr := hr1.lt
  have gb := (hG.keep0 hc1).glo.errs.cell .bound
  simp only [Er.g] at gb
  rw [hEb] at gb
  have HEb := Lib.hid hEb
  clear hEb
  refine wp_region_n (fun w' => w'.cell? ⟨0, 0, none⟩ = some (.iface Tb ub)) [] (by kernel_rfl) ?_ (fun hSh => ?_)
  ·exact gb
  refine n_tA (v := ?_) 0 rfl (Or.inl ⟨by rfl, ?_⟩) ?_
  rotate_left 1
  ·(intro w' hSw; (try dsimp only at hSw); go_simp; try with_reducible rfl)
  simp only [Act.put, qA, qB, qC, qD, qE, qF]
  refine n_tA (v := ?_) 1 rfl (Or.inl ⟨by rfl, ?_⟩) ?_
  rotate_left 1
  ·(intro w' hSw; (try dsimp only at hSw); go_simp; try with_reducible rfl)
  simp only [Act.put, qA, qB, qC, qD, qE, qF]
  refine n_step 2 rfl (by kernel_rfl) ?_
  go_wp2_with fail
  have hrE := (store5 hr1 (.int .i64 0) (.string ⟨#[]⟩) (.int .i64 0) (.int .i64 0) (.slice none 0 0)).drew
  have hcE := (store5_chg w1 w.heap.size (.int .i64 0) (.string ⟨#[]⟩) (.int .i64 0) (.int .i64 0) (.slice none 0 0)).drew
  have hgE := (hcE.cell (p := ⟨0, 0, none⟩) (lt_of_cell gb) (fun e => by have e : 0 = w.heap.size := e; have := hG.glo.below.1 .bound; simp only [Er.g] at this; omega)).trans gb
  generalize World.drew (World.setCell (World.setCell (World.setCell (World.setCell (World.setCell w1 ⟨w.heap.size, 0, none⟩ (.int .i64 0)) ⟨w.heap.size, 1, none⟩ (.string ⟨#[]⟩)) ⟨w.heap.size, 2, none⟩ (.int .i64 0)) ⟨w.heap.size, 3, none⟩ (.int .i64 0)) ⟨w.heap.size, 4, none⟩ (.slice none 0 0)) = w9 at hrE hcE hgE ⊢
  refine ⟨fun _ => hgE, fun hSk => ?_⟩
  replace hSk := hSk (by rfl)
  refine n_tA (v := ?_) 3 rfl (Or.inl ⟨by rfl, ?_⟩) ?_
  rotate_left 1
  ·(intro w' hSw; (try dsimp only at hSw); go_simp; try with_reducible rfl)
  simp only [Act.put, qA, qB, qC, qD, qE, qF]
  refine n_tA (v := ?_) 4 rfl (Or.inl ⟨by rfl, ?_⟩) ?_
  rotate_left 1
  ·(intro w' hSw; (try dsimp only at hSw); go_simp; try with_reducible rfl)
  simp only [Act.put, qA, qB, qC, qD, qE, qF]
  refine n_done (by kernel_rfl) ?_
  have n0 : w9.cell? ⟨w.heap.size, 0, none⟩ = some (.int .i64 (0)) := hrE.cell 0
  have n1 : w9.cell? ⟨w.heap.size, 1, none⟩ = some (.string ⟨#[]⟩) := hrE.cell 1
  have n2 : w9.cell? ⟨w.heap.size, 2, none⟩ = some (.int .i64 (0)) := hrE.cell 2
  have n3 : w9.cell? ⟨w.heap.size, 3, none⟩ = some (.int .i64 (0)) := hrE.cell 3
  have n4 : w9.cell? ⟨w.heap.size, 4, none⟩ = some (.slice none 0 0) := hrE.cell 4
  go_wp2_with fail
  refine bodyPost_ret (v := .tuple #[zeroNode, .int .i64 0, .iface Tb ub]) (by simp [results, Tryz.results16, go_sem, n0, n1, n2, n3, n4, zeroNode]) rfl ?_
  exact ⟨hc1.trans' hcE (fun y e => by have e : y = w.heap.size := e; omega), by rw [HEb.out]⟩
 ·have h60I : ¬ (60 : Int) < (es.length : Int) := by omega
  have hrep : replayF es = replayGo 0 es [] 1 := by unfold replayF; rw [if_neg h60]
  have Hrep := Lib.hid hrep
  clear hrep
  go_enter Tryz.func16, Tryz.ntmps16
  go_wp2_with fail
  generalize hw1 : World.alloc _ _ = w1
  have hc1 : Chg NoB w w1 := by
   rw [← hw1]
   repeat (first | exact Chg.refl _ _ | apply Chg.alloc | apply Chg.drew)
  have hr1 : Blk w1 (w.heap.size) (ndCells 0 ⟨#[]⟩ 0 0 (.slice none 0 0)) 56 := by
   rw [← hw1]
   repeat (first | exact Blk.newAt (by first | rfl | (simp; done) | (simp; omega)) | apply Blk.alloc | apply Blk.drew)
  have hg1 : Blk w1 (w.heap.size + 1) ([.int .i64 0, .string rootName, .int .i64 1, .int .i64 0, .slice none 0 0, .int .i64 1]) 81 := by
   rw [← hw1]
   repeat (first | exact Blk.newAt (by first | rfl | (simp; done) | (simp; omega)) | apply Blk.alloc | apply Blk.drew)
  clear hw1
  have hr1l := hr1.lt
  have hg1l := hg1.lt
  go_loopw [19] (fun vi wr => RepInv es w w1 vi wr) (fun vi _ => es.length - (intOf vi).toNat)
  case atStart =>
   exact ⟨0, [], 1, [], Nat.zero_le _, rfl, Hrep.out, sound0, by simp, ⟨⟨_, hg1, .inl ⟨rfl, rfl, rfl⟩⟩, by simp, List.nodup_nil⟩, fun x hx => (List.not_mem_nil hx).elim, Chg.refl _ _⟩
  case round =>
   obtain ⟨j, l, nx, F, hj, rfl, hgo, hS, hnx, hL, hF, hcr⟩ := hrel
   have hcw : Chg NoB w wr := hc1.trans' hcr (fun y e => by have e : y = w.heap.size + 1 := e; omega)
   have hGr := hG.keep0 hcw
   by_cases hlt2 : j < es.length
   ·have hltI : (j : Int) < (es.length : Int) := by omega
    obtain ⟨b, off, rfl, hSb, hbw, hE⟩ := hcell (by omega)
    have hej := hE j es[j] (List.getElem?_eq_getElem hlt2)
    have hdrop : es.drop j = es[j] :: es.drop (j + 1) := List.drop_eq_getElem_cons hlt2
    have htake : es.take (j + 1) = es.take j ++ [es[j]] := List.take_succ_eq_append_getElem hlt2
    have hsz : es[j].size ≤ 10000 := Nat.le_trans (le_sum (List.mem_map_of_mem (List.getElem_mem hlt2))) hsum
    have hsumj : ((es.take j).map ByteArray.size).sum ≤ 10000 := Nat.le_trans (take_sum es j) hsum
    generalize es[j] = ej at hej hdrop htake hsz
    rw [hdrop] at hgo
    have e1 := (hcw.cell (p := ⟨b, off + j, none⟩) hbw nbE).trans hej
    have hfw : Nd.weighs l ≤ 39 := by
     rcases hS.fit with rfl | hf
     ·exact Nat.zero_le _
     ·exact hf.small
    have hnd : (idsL l).Nodup := by
     rcases hS.fit with rfl | hf
     ·simp [idsL]
     ·exact hf.nodup
    have hslim : Nd.Alls Slim l := by
     rcases hS.fit with rfl | hf
     ·trivial
     ·exact slim_fit hf
    have hp1 := hS.pos
    have hnx6 : nx ≤ 1000000 := by omega
    have hed := edit_any w.heap.size (w.heap.size + 1) E N K ej l nx m F wr hGr hsz (by omega) hL hnd (by omega) ⟨by omega, hnx6⟩
    have Hgo := Lib.hid hgo
    have Htake := Lib.hid htake
    have HS := Lib.hid hS
    have Hnx := Lib.hid hnx
    have HF := Lib.hid hF
    clear hgo hdrop htake hS hnx hE hej hF
    go_wp2_with fail
    refine hed.mono ?_
    clear hed
    rintro en w2 ⟨hc2, hm⟩
    have hc12 : Chg (OneB (w.heap.size + 1)) w1 w2 := hcr.trans hc2 (fun x e => by
     rcases e with e | e
     ·exact .inl e
     ·exact .inr (HF.out x e))
    have hcw2 : Chg NoB w w2 := hc1.trans' hc12 (fun y e => by have e : y = w.heap.size + 1 := e; omega)
    have hr2 := hr1.keep hc12 (fun e => by have e : w.heap.size = w.heap.size + 1 := e; omega)
    have lr2 := hr2.lt
    have z0 : w2.frozen? ⟨w.heap.size, 0, none⟩ = false := hr2.free 0
    have z1 : w2.frozen? ⟨w.heap.size, 1, none⟩ = false := hr2.free 1
    have z2 : w2.frozen? ⟨w.heap.size, 2, none⟩ = false := hr2.free 2
    have z3 : w2.frozen? ⟨w.heap.size, 3, none⟩ = false := hr2.free 3
    have z4 : w2.frozen? ⟨w.heap.size, 4, none⟩ = false := hr2.free 4
    have y0 : w2.cell? ⟨w.heap.size, 0, none⟩ = some (.int .i64 (0)) := hr2.cell 0
    have y1 : w2.cell? ⟨w.heap.size, 1, none⟩ = some (.string ⟨#[]⟩) := hr2.cell 1
    have y2 : w2.cell? ⟨w.heap.size, 2, none⟩ = some (.int .i64 (0)) := hr2.cell 2
    have y3 : w2.cell? ⟨w.heap.size, 3, none⟩ = some (.int .i64 (0)) := hr2.cell 3
    have y4 : w2.cell? ⟨w.heap.size, 4, none⟩ = some (.slice none 0 0) := hr2.cell 4
    cases hew : editW (wordsB ej) l nx with
    | bad x =>
     rw [hew] at hm
     obtain rfl := hm
     have hres : replayF es = .bad j x := by rw [Hgo.out, replayGo, hew]
     have Hres := Lib.hid hres
     obtain ⟨Tx, ux, hx⟩ := edVal_form hG x
     have Hx := Lib.hid hx
     rw [hx]
     clear hew hx hres
     go_wp2_with fail
     have hrE := store5 hr2 (.int .i64 0) (.string ⟨#[]⟩) (.int .i64 0) (.int .i64 0) (.slice none 0 0)
     have hcE := store5_chg w2 w.heap.size (.int .i64 0) (.string ⟨#[]⟩) (.int .i64 0) (.int .i64 0) (.slice none 0 0)
     have hzE : w2.heap.size = (World.setCell (World.setCell (World.setCell (World.setCell (World.setCell w2 ⟨w.heap.size, 0, none⟩ (.int .i64 0)) ⟨w.heap.size, 1, none⟩ (.string ⟨#[]⟩)) ⟨w.heap.size, 2, none⟩ (.int .i64 0)) ⟨w.heap.size, 3, none⟩ (.int .i64 0)) ⟨w.heap.size, 4, none⟩ (.slice none 0 0)).heap.size := by simp
     generalize World.setCell (World.setCell (World.setCell (World.setCell (World.setCell w2 ⟨w.heap.size, 0, none⟩ (.int .i64 0)) ⟨w.heap.size, 1, none⟩ (.string ⟨#[]⟩)) ⟨w.heap.size, 2, none⟩ (.int .i64 0)) ⟨w.heap.size, 3, none⟩ (.int .i64 0)) ⟨w.heap.size, 4, none⟩ (.slice none 0 0) = wS at hrE hcE hzE ⊢
     generalize hwF : World.alloc wS _ = wF
     have hcF : Chg NoB wS wF := by
      rw [← hwF]
      repeat (first | exact Chg.refl _ _ | apply Chg.alloc | apply Chg.drew)
     have hfF : Blk wF (wS.heap.size) ([.int .i64 (j : Int), .iface Tx ux]) 86 := by
      rw [← hwF]
      repeat (first | exact Blk.newAt (by first | rfl | (simp; done) | (simp; omega)) | apply Blk.alloc | apply Blk.drew)
     clear hwF
     rw [← hzE] at hfF
     have hrF := hrE.keep hcF nbE
     have n0 : wF.cell? ⟨w.heap.size, 0, none⟩ = some (.int .i64 (0)) := hrF.cell 0
     have n1 : wF.cell? ⟨w.heap.size, 1, none⟩ = some (.string ⟨#[]⟩) := hrF.cell 1
     have n2 : wF.cell? ⟨w.heap.size, 2, none⟩ = some (.int .i64 (0)) := hrF.cell 2
     have n3 : wF.cell? ⟨w.heap.size, 3, none⟩ = some (.int .i64 (0)) := hrF.cell 3
     have n4 : wF.cell? ⟨w.heap.size, 4, none⟩ = some (.slice none 0 0) := hrF.cell 4
     refine bodyPost_ret (v := .tuple #[zeroNode, .int .i64 0, .iface 84 (.pointer (some ⟨w2.heap.size, 0, none⟩))]) (by simp [results, Tryz.results16, go_sem, n0, n1, n2, n3, n4, zeroNode]) rfl ?_
     rw [Hres.out]
     exact ⟨(hcw2.trans' hcE (fun y e => by have e : y = w.heap.size := e; omega)).tr hcF, _, rfl, w2.heap.size, rfl, by rw [Hx.out]; exact hfF⟩
    | ok l' nx' =>
     rw [hew] at hm
     obtain ⟨rfl, F', hL', hF'⟩ := hm
     have hf := editW_facts hsz ⟨hp1, hnx6⟩ hslim hfw hew
     have hF2 : ∀ x ∈ F', w1.heap.size ≤ x := fun x hx => (hF' x hx).elim (HF.out x) (fun h => Nat.le_trans hcr.size h)
     obtain ⟨v', hg2, htl⟩ := hL'.blk
     obtain ⟨a2, c2, rfl, hl2, hc2m⟩ := htl.form
     have g0 : w2.cell? ⟨w.heap.size + 1, 0, none⟩ = some (.int .i64 0) := hg2.cell 0
     have g1 : w2.cell? ⟨w.heap.size + 1, 1, none⟩ = some (.string rootName) := hg2.cell 1
     have g2 : w2.cell? ⟨w.heap.size + 1, 2, none⟩ = some (.int .i64 1) := hg2.cell 2
     have g3 : w2.cell? ⟨w.heap.size + 1, 3, none⟩ = some (.int .i64 0) := hg2.cell 3
     have g4 : w2.cell? ⟨w.heap.size + 1, 4, none⟩ = some (.slice a2 l'.length c2) := hg2.cell 4
     have hstep : (l' = [] ∨ Fit l') → Sound l' nx' ∧ 14 * (nx' - 1) ≤ (((es.take (j + 1)).map ByteArray.size).sum : Nat) ∧ replayF es = replayGo (j + 1) (es.drop (j + 1)) l' nx' := fun hor => by
      obtain ⟨s1, s2, s3⟩ := HS.out.step (e := ej) (l' := l') (nx' := nx') ⟨hew, hor⟩
      refine ⟨s1, ?_, by rw [Hgo.out, replay_step ⟨hew, hor⟩]⟩
      have h9 := Hnx.out
      rw [Htake.out, List.map_append, List.sum_append, List.map_cons, List.map_nil, List.sum_cons, List.sum_nil]
      omega
     have Hstep := Lib.hid hstep
     have Hew := Lib.hid hew
     clear hstep hew
     by_cases hem : l' = []
     ·subst hem
      obtain ⟨t1, t2, t3⟩ := Hstep.out (.inl rfl)
      have HT3 := Lib.hid t3
      have HT2 := Lib.hid t2
      clear t3 t2
      simp only [List.length_nil] at g4
      go_wp2_with fail
      go_roundw
      case rel => exact ⟨j + 1, [], nx', F', hlt2, by go_num, HT3.out, t1, HT2.out, hL', hF2, hc12⟩
      case measure => simp [intOf]; omega
     ·have hlp : (0 : Int) < (l'.length : Int) := by
       have : l'.length ≠ 0 := fun h => hem (List.eq_nil_of_length_eq_zero h)
       omega
      have hrd : Reads w2 (fun b => b < w2.heap.size) (rootNd l').dt (ndCells 0 rootName 1 0 (.slice a2 l'.length c2)) := reads_nd.2 ⟨_, rfl, htl.reads (fun x hx => (htl.lt x hx).2)⟩
      have hok : (rootNd l').ok := ⟨⟨by decide, by decide⟩, by decide, ⟨by decide, by decide⟩, ⟨by decide, by decide⟩, by have := weighs_len l'; unfold reach; omega, all_ok hf.1 (by omega)⟩
      have hv := valid_any (rootNd l') w2 _ _ E (hG.keep0 hcw2).glo.errs hok hrd (fun b hb => hb)
      unfold ndCells at hv
      go_wp2_with fail
      refine hv.mono ?_
      clear hv
      rintro en w3 ⟨rfl, hc3⟩
      cases hvf : validF (rootNd l') with
      | none =>
       obtain ⟨t1, t2, t3⟩ := Hstep.out (.inr (fit_iff_valid.1 hvf))
       have HT3 := Lib.hid t3
       have HT2 := Lib.hid t2
       clear t3 t2 hvf
       rw [show errVal E none = .nilIface from rfl]
       clear g0 g1 g2 g3 g4
       go_wp2_with fail
       go_roundw
       case rel => exact ⟨j + 1, l', nx', F', hlt2, by go_num, HT3.out, t1, HT2.out, hL'.keep hc3 nbE (fun _ _ => nbE), hF2, hc12.tr hc3⟩
       case measure => simp [intOf]; omega
      | some x =>
       have hres : replayF es = .bad j (.er x) := by
        rw [Hgo.out, replayGo, Hew.out]
        dsimp only
        rw [if_neg (by simpa using hem), hvf]
       have Hres := Lib.hid hres
       obtain ⟨Tx, ux, hx⟩ := hG.glo.errs.form x
       have Hx := Lib.hid (show edVal E N K (.er x) = .iface Tx ux from hx)
       rw [show errVal E (some x) = E x from rfl, hx]
       have hr3 := hr2.keep hc3 nbE
       have hcw3 := hcw2.tr hc3
       have lr3 := hr3.lt
       clear z0 z1 z2 z3 z4 y0 y1 y2 y3 y4
       have z0 : w3.frozen? ⟨w.heap.size, 0, none⟩ = false := hr3.free 0
       have z1 : w3.frozen? ⟨w.heap.size, 1, none⟩ = false := hr3.free 1
       have z2 : w3.frozen? ⟨w.heap.size, 2, none⟩ = false := hr3.free 2
       have z3 : w3.frozen? ⟨w.heap.size, 3, none⟩ = false := hr3.free 3
       have z4 : w3.frozen? ⟨w.heap.size, 4, none⟩ = false := hr3.free 4
       have y0 : w3.cell? ⟨w.heap.size, 0, none⟩ = some (.int .i64 (0)) := hr3.cell 0
       have y1 : w3.cell? ⟨w.heap.size, 1, none⟩ = some (.string ⟨#[]⟩) := hr3.cell 1
       have y2 : w3.cell? ⟨w.heap.size, 2, none⟩ = some (.int .i64 (0)) := hr3.cell 2
       have y3 : w3.cell? ⟨w.heap.size, 3, none⟩ = some (.int .i64 (0)) := hr3.cell 3
       have y4 : w3.cell? ⟨w.heap.size, 4, none⟩ = some (.slice none 0 0) := hr3.cell 4
       clear hvf hx hres g0 g1 g2 g3 g4
       go_wp2_with fail
       have hrE := store5 hr3 (.int .i64 0) (.string ⟨#[]⟩) (.int .i64 0) (.int .i64 0) (.slice none 0 0)
       have hcE := store5_chg w3 w.heap.size (.int .i64 0) (.string ⟨#[]⟩) (.int .i64 0) (.int .i64 0) (.slice none 0 0)
       have hzE : w3.heap.size = (World.setCell (World.setCell (World.setCell (World.setCell (World.setCell w3 ⟨w.heap.size, 0, none⟩ (.int .i64 0)) ⟨w.heap.size, 1, none⟩ (.string ⟨#[]⟩)) ⟨w.heap.size, 2, none⟩ (.int .i64 0)) ⟨w.heap.size, 3, none⟩ (.int .i64 0)) ⟨w.heap.size, 4, none⟩ (.slice none 0 0)).heap.size := by simp
       generalize World.setCell (World.setCell (World.setCell (World.setCell (World.setCell w3 ⟨w.heap.size, 0, none⟩ (.int .i64 0)) ⟨w.heap.size, 1, none⟩ (.string ⟨#[]⟩)) ⟨w.heap.size, 2, none⟩ (.int .i64 0)) ⟨w.heap.size, 3, none⟩ (.int .i64 0)) ⟨w.heap.size, 4, none⟩ (.slice none 0 0) = wS at hrE hcE hzE ⊢
       generalize hwF : World.alloc wS _ = wF
       have hcF : Chg NoB wS wF := by
        rw [← hwF]
        repeat (first | exact Chg.refl _ _ | apply Chg.alloc | apply Chg.drew)
       have hfF : Blk wF (wS.heap.size) ([.int .i64 (j : Int), .iface Tx ux]) 86 := by
        rw [← hwF]
        repeat (first | exact Blk.newAt (by first | rfl | (simp; done) | (simp; omega)) | apply Blk.alloc | apply Blk.drew)
       clear hwF
       rw [← hzE] at hfF
       have hrF := hrE.keep hcF nbE
       have n0 : wF.cell? ⟨w.heap.size, 0, none⟩ = some (.int .i64 (0)) := hrF.cell 0
       have n1 : wF.cell? ⟨w.heap.size, 1, none⟩ = some (.string ⟨#[]⟩) := hrF.cell 1
       have n2 : wF.cell? ⟨w.heap.size, 2, none⟩ = some (.int .i64 (0)) := hrF.cell 2
       have n3 : wF.cell? ⟨w.heap.size, 3, none⟩ = some (.int .i64 (0)) := hrF.cell 3
       have n4 : wF.cell? ⟨w.heap.size, 4, none⟩ = some (.slice none 0 0) := hrF.cell 4
       refine bodyPost_ret (v := .tuple #[zeroNode, .int .i64 0, .iface 84 (.pointer (some ⟨w3.heap.size, 0, none⟩))]) (by simp [results, Tryz.results16, go_sem, n0, n1, n2, n3, n4, zeroNode]) rfl ?_
       rw [Hres.out]
       exact ⟨(hcw3.trans' hcE (fun y e => by have e : y = w.heap.size := e; omega)).tr hcF, _, rfl, w3.heap.size, rfl, by rw [Hx.out]; exact hfF⟩
   ·have hltI : ¬ (j : Int) < (es.length : Int) := by omega
    have hdr : es.drop j = [] := List.drop_eq_nil_of_le (by omega)
    rw [hdr] at hgo
    have Hgo := Lib.hid hgo
    clear hgo
    obtain ⟨v', hg2, htl⟩ := hL.blk
    obtain ⟨a2, c2, rfl, hl2, hc2m⟩ := htl.form
    have g0 : wr.cell? ⟨w.heap.size + 1, 0, none⟩ = some (.int .i64 0) := hg2.cell 0
    have g1 : wr.cell? ⟨w.heap.size + 1, 1, none⟩ = some (.string rootName) := hg2.cell 1
    have g2 : wr.cell? ⟨w.heap.size + 1, 2, none⟩ = some (.int .i64 1) := hg2.cell 2
    have g3 : wr.cell? ⟨w.heap.size + 1, 3, none⟩ = some (.int .i64 0) := hg2.cell 3
    have g4 : wr.cell? ⟨w.heap.size + 1, 4, none⟩ = some (.slice a2 l.length c2) := hg2.cell 4
    have g5 : wr.cell? ⟨w.heap.size + 1, 5, none⟩ = some (.int .i64 nx) := hg2.cell 5
    have hrr : Blk wr w.heap.size (ndCells 0 ⟨#[]⟩ 0 0 (.slice none 0 0)) 56 := hr1.keep hcr (fun e => by have e : w.heap.size = w.heap.size + 1 := e; omega)
    have z0 : wr.frozen? ⟨w.heap.size, 0, none⟩ = false := hrr.free 0
    have z1 : wr.frozen? ⟨w.heap.size, 1, none⟩ = false := hrr.free 1
    have z2 : wr.frozen? ⟨w.heap.size, 2, none⟩ = false := hrr.free 2
    have z3 : wr.frozen? ⟨w.heap.size, 3, none⟩ = false := hrr.free 3
    have z4 : wr.frozen? ⟨w.heap.size, 4, none⟩ = false := hrr.free 4
    have y0 : wr.cell? ⟨w.heap.size, 0, none⟩ = some (.int .i64 (0)) := hrr.cell 0
    have y1 : wr.cell? ⟨w.heap.size, 1, none⟩ = some (.string ⟨#[]⟩) := hrr.cell 1
    have y2 : wr.cell? ⟨w.heap.size, 2, none⟩ = some (.int .i64 (0)) := hrr.cell 2
    have y3 : wr.cell? ⟨w.heap.size, 3, none⟩ = some (.int .i64 (0)) := hrr.cell 3
    have y4 : wr.cell? ⟨w.heap.size, 4, none⟩ = some (.slice none 0 0) := hrr.cell 4
    have lr := hrr.lt
    have lg := hg2.lt
    go_wp2_with fail
    refine wp_region_n (fun w' => w'.cell? ⟨w.heap.size + 1, 0, none⟩ = some (.int .i64 0) ∧ w'.cell? ⟨w.heap.size + 1, 1, none⟩ = some (.string rootName) ∧ w'.cell? ⟨w.heap.size + 1, 2, none⟩ = some (.int .i64 1) ∧ w'.cell? ⟨w.heap.size + 1, 3, none⟩ = some (.int .i64 0) ∧ w'.cell? ⟨w.heap.size + 1, 4, none⟩ = some (.slice a2 l.length c2) ∧ w'.cell? ⟨w.heap.size + 1, 5, none⟩ = some (.int .i64 nx)) [] (by kernel_rfl) ?_ (fun hSh => ?_)
    ·exact ⟨g0, g1, g2, g3, g4, g5⟩
    refine n_from 0 ?_
    intro htk
    iterate 8
     refine n_tB (v := ?_) htk rfl (Or.inl ⟨by rfl, ?_⟩) ?_
     rotate_left 1
     ·(intro w' hSw; (try dsimp only at hSw); go_simp; try with_reducible rfl)
     clear htk
     intro htk
     simp only [Nat.reduceAdd] at htk
     simp only [Act.put, qA, qB, qC, qD, qE, qF]
    clear htk
    refine n_step 8 rfl (by kernel_rfl) ?_
    go_wp2_with fail
    have hrE := (store5 hrr (.int .i64 0) (.string rootName) (.int .i64 1) (.int .i64 0) (.slice a2 l.length c2)).drew
    have hgE := (store5_other (b := w.heap.size) hg2 (by omega) (.int .i64 0) (.string rootName) (.int .i64 1) (.int .i64 0) (.slice a2 l.length c2)).drew
    have hcE := (store5_chg wr w.heap.size (.int .i64 0) (.string rootName) (.int .i64 1) (.int .i64 0) (.slice a2 l.length c2)).drew
    generalize World.drew (World.setCell (World.setCell (World.setCell (World.setCell (World.setCell _ ⟨w.heap.size, 0, none⟩ (.int .i64 0)) ⟨w.heap.size, 1, none⟩ (.string rootName)) ⟨w.heap.size, 2, none⟩ (.int .i64 1)) ⟨w.heap.size, 3, none⟩ (.int .i64 0)) ⟨w.heap.size, 4, none⟩ (.slice a2 l.length c2)) = w9 at hrE hgE hcE ⊢
    refine ⟨fun _ => ⟨hgE.cell 0, hgE.cell 1, hgE.cell 2, hgE.cell 3, hgE.cell 4, hgE.cell 5⟩, fun hSk => ?_⟩
    replace hSk := hSk (by rfl)
    refine n_tA (v := ?_) 9 rfl (Or.inl ⟨by rfl, ?_⟩) ?_
    rotate_left 1
    ·(intro w' hSw; (try dsimp only at hSw); go_simp; try with_reducible rfl)
    simp only [Act.put, qA, qB, qC, qD, qE, qF]
    refine n_tA (v := ?_) 10 rfl (Or.inl ⟨by rfl, ?_⟩) ?_
    rotate_left 1
    ·(intro w' hSw; (try dsimp only at hSw); go_simp; try with_reducible rfl)
    simp only [Act.put, qA, qB, qC, qD, qE, qF]
    refine n_done (by kernel_rfl) ?_
    have n0 : w9.cell? ⟨w.heap.size, 0, none⟩ = some (.int .i64 (0)) := hrE.cell 0
    have n1 : w9.cell? ⟨w.heap.size, 1, none⟩ = some (.string rootName) := hrE.cell 1
    have n2 : w9.cell? ⟨w.heap.size, 2, none⟩ = some (.int .i64 (1)) := hrE.cell 2
    have n3 : w9.cell? ⟨w.heap.size, 3, none⟩ = some (.int .i64 (0)) := hrE.cell 3
    have n4 : w9.cell? ⟨w.heap.size, 4, none⟩ = some (.slice a2 l.length c2) := hrE.cell 4
    go_wp2_with fail
    refine bodyPost_ret (v := .tuple #[.agg #[.int .i64 0, .string rootName, .int .i64 1, .int .i64 0, .slice a2 l.length c2], .int .i64 nx, .nilIface]) (by simp [results, Tryz.results16, go_sem, n0, n1, n2, n3, n4]) rfl ?_
    rw [Hgo.out]
    have h1s := hc1.size
    refine ⟨hcw.trans' hcE (fun y e => by have e : y = w.heap.size := e; omega), _, F, rfl, htl.keep (fun x hx => hcE.block x (htl.lt x hx).2 (fun e => by have e : x = w.heap.size := e; have := hF x hx; omega)), hL.nd⟩
end Go.Proofs.YtnmhkafpgohefaaGreatDoor
