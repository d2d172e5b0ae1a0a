/-
  EvolveReplays: the walk, by the contracts.
-/
import Derived.Test.YtgcmfpcgmkkobaaGreatDoorReplayR
import Derived.Test.YtgcmfpcgmkkobaaGreatDoorLayR
import Derived.Test.YtgcmfpcgmkkobaaGreatDoorShort
import Derived.Test.YtgcmfpcgmkkobaaGreatDoorMoveLaw
import Derived.Test.YtgcmfpcgmkkobaaGreatDoorWalk
set_option linter.unusedVariables false
set_option maxHeartbeats 20000000
set_option maxRecDepth 100000
set_option linter.unusedSimpArgs false
namespace Go.Proofs.YtgcmfpcgmkkobaaGreatDoor
open Go.RowKit
theorem Own.strs {w : World} {B : Nat} {v : Value} {l : List ByteArray} (h : Own w B 9 1 (fun _ => False) v (l.map strDt)) (hl : l.length ≤ maxLen) : Reads w (fun b => b < w.heap.size) (.list 1 (l.map fun x => .lit (.string x))) [v] :=
 h.reads (fun _ e => e.elim) (fun b _ hb => hb) (by rw [List.length_map]; exact hl)
theorem Told.keepE {w w' : World} {A : Nat → Addr} {v : Value} {n at' : Int} (h : Told w A v n at') (hc : Chg NoB w w') : Told w' A v n at' := by
 cases h with
 | nil => exact .nil
 | sent i hi => exact .sent i hi
 | fault p i _ hi h0 h1 hb => exact .fault p i _ hi ((hc.cell (lt_of_block' h0) nbE).trans h0) ((hc.cell (lt_of_block' h1) nbE).trans h1) hb
theorem faulted4_yes (v : Value) (n a : Int) (w : World) (A : Nat → Addr) (hS : Sents w A) (ht : Told w A v n a) (hn : 0 < n ∧ n ≤ 100) :
  Calls Tryz.prog 44 #[v, faultE n a] w (RetV (.bool true) w) := by
 unfold faultE
 go_enter Tryz.func44, Tryz.ntmps44
 go_wp2_with fail
 generalize hw1 : w.alloc _ = w1
 have hc1 : Chg NoB w w1 := by
  rw [← hw1]
  repeat (first | exact Chg.refl _ _ | apply Chg.alloc | apply Chg.drew)
 have hb1 : Blk w1 (w.heap.size) ([.int .i64 n, .int .i64 a]) 52 := by
  rw [← hw1]
  repeat (first | exact Blk.newAt (by first | rfl | (simp; done) | (simp; omega)) | apply Blk.alloc | apply Blk.drew)
 clear hw1
 have ht1 : Told w1 A v n a := ht.keepE hc1
 refine (code_any v n a w1 A (hS.keep0 hc1) ht1).mono ?_
 rintro en w2 ⟨rfl, hc2⟩
 have hb2 := hb1.keep hc2 nbE
 have c0 : w2.cell? ⟨w.heap.size, 0, none⟩ = some (.int .i64 n) := hb2.cell 0
 have c1 : w2.cell? ⟨w.heap.size, 1, none⟩ = some (.int .i64 a) := hb2.cell 1
 have hl := hb2.lt
 have hn0 : (n == 0) = false := by simp; omega
 go_wp2_with fail
 go_ret
 exact ⟨by first | rfl | simp, hc1.tr hc2⟩
theorem zero_readsE (w : World) (S : Nat → Prop) : Reads w S zeroNd.dt [.int .i64 0, .string ⟨#[]⟩, .int .i64 0, .int .i64 0, .slice none 0 0] :=
 reads_nd.2 ⟨_, rfl, none, 0, rfl, Nat.le_refl _, Nat.zero_le _, .inl ⟨rfl, fun _ => rfl⟩⟩
theorem isNode4_err (v : Value) (c a : Int) (w : World) (A : Nat → Addr) (hS : Sents w A) (ht : Told w A v c a) (hc : 0 < c ∧ c ≤ 100) :
  Calls Tryz.prog 24 #[zeroNode, v, zeroNode, faultE c a] w (RetV (.bool true) w) := by
 obtain ⟨hc0, hc1⟩ := hc
 unfold zeroNode faultE
 go_enter Tryz.func24, Tryz.ntmps24
 go_wp2_with fail
 generalize hw1 : World.alloc _ _ = w1
 have hc1 : Chg NoB w w1 := by
  rw [← hw1]
  repeat (first | exact Chg.refl _ _ | apply Chg.alloc | apply Chg.drew)
 have hb1 : Blk w1 (w.heap.size) (ndCells 0 ⟨#[]⟩ 0 0 (.slice none 0 0)) 28 := by
  rw [← hw1]
  repeat (first | exact Blk.newAt (by first | rfl | (simp; done) | (simp; omega)) | apply Blk.alloc | apply Blk.drew)
 clear hw1
 refine (faulted4_yes v c a w1 A (hS.keep0 hc1) (ht.keepE hc1) ⟨hc0, by omega⟩).mono ?_
 rintro en w2 ⟨rfl, hc2⟩
 have hb2 := hb1.keep hc2 nbE
 have x0 : w2.cell? ⟨w.heap.size, 0, none⟩ = some (.int .i64 (0)) := hb2.cell 0
 have x1 : w2.cell? ⟨w.heap.size, 1, none⟩ = some (.string ⟨#[]⟩) := hb2.cell 1
 have x2 : w2.cell? ⟨w.heap.size, 2, none⟩ = some (.int .i64 (0)) := hb2.cell 2
 have x3 : w2.cell? ⟨w.heap.size, 3, none⟩ = some (.int .i64 (0)) := hb2.cell 3
 have x4 : w2.cell? ⟨w.heap.size, 4, none⟩ = some (.slice none 0 0) := hb2.cell 4
 have l2 := hb2.lt
 go_wp2_with fail
 refine (sameNode_yes _ zeroNd w2 (fun _ => False) (fun _ => False) _ _ (Nat.le_refl _) (zero_readsE _ _) (zero_readsE _ _) zeroNd_ok).mono ?_
 rintro en w3 ⟨rfl, hc3⟩
 go_wp2_with fail
 go_ret
 exact ⟨rfl, (hc1.tr hc2).tr hc3⟩
theorem isNode4_ok (w : World) (S T : Nat → Prop) (nd : Nd) (cs ds : List Value) (hr : Reads w S nd.dt cs) (hq : Reads w T nd.dt ds) (hok : nd.ok) :
  Calls Tryz.prog 24 #[.agg cs.toArray, .nilIface, .agg ds.toArray, faultE 0 (-1)] w (RetV (.bool true) w) := by
 obtain ⟨i, nm, r, k, sb⟩ := nd
 obtain ⟨sv1, rfl, hs⟩ := reads_nd.1 hr
 obtain ⟨sa, cap, rfl, _, _, _⟩ := reads_subs hs
 obtain ⟨sv2, rfl, hs2⟩ := reads_nd.1 hq
 obtain ⟨sa2, cap2, rfl, _, _, _⟩ := reads_subs hs2
 unfold faultE
 go_enter Tryz.func24, Tryz.ntmps24
 go_wp2_with fail
 generalize hw1 : World.alloc _ _ = w1
 have hc1 : Chg NoB w w1 := by
  rw [← hw1]
  repeat (first | exact Chg.refl _ _ | apply Chg.alloc | apply Chg.drew)
 clear hw1
 refine (sameNode_yes _ (.mk i nm r k sb) w1 _ _ _ _ (Nat.le_refl _) (hr.chg0 hc1) (hq.chg0 hc1) hok).mono ?_
 rintro en w3 ⟨rfl, hc3⟩
 go_wp2_with fail
 go_ret
 exact ⟨rfl, hc1.tr hc3⟩
theorem bad_go : ∀ (es : List ByteArray) (i j : Nat) (l : List Nd) (nx : Int) (e : EdEr), replayGo i es l nx = .bad j e → j ≤ i + es.length
 | [], i, j, l, nx, e, h => by cases h
 | x :: es, i, j, l, nx, e, h => by
  rw [replayGo] at h
  simp only [List.length_cons]
  split at h
  ·cases h; omega
  ·split at h
   ·have := bad_go es (i + 1) j _ _ e h; omega
   ·split at h
    ·have := bad_go es (i + 1) j _ _ e h; omega
    ·cases h; omega
theorem bad_le {es : List ByteArray} {j : Nat} {e : EdEr} (h : replayF es = .bad j e) : j ≤ 1000000 := by
 unfold replayF at h
 split at h
 ·cases h
 ·have := bad_go es 0 j _ _ e h; omega
theorem Told.edit {w : World} {A : Nat → Addr} {E : Er → Value} {N K : Value} (h : Named w A E N) (hK : K = sv (A 3)) (e : EdEr) {i : Nat} {fv : Value} (hi : i ≤ 1000000) (hf : FaultAt w (edVal E N K e) i fv) : Told w A fv (edCode e) (i : Nat) := by
 obtain ⟨p, rfl, hb⟩ := hf
 have key : ∀ j : Nat, j < 8 → edVal E N K e = sv (A j) → edCode e = (j : Int) + 1 → Told w A (.iface 66 (.pointer (some ⟨p, 0, none⟩))) (edCode e) (i : Nat) := fun j hj h1 h2 => by
  rw [h2]
  exact .fault p j _ hj (hb.cell 0) (by rw [← h1]; exact hb.cell 1) (by omega)
 cases e with
 | er e => exact key e.i (by cases e <;> decide) (h.er e) (by cases e <;> rfl)
 | non => exact key 5 (by decide) h.non rfl
 | kind => exact key 3 (by decide) hK rfl
theorem replays_any (es : List ByteArray) (v : Value) (w : World) (S : Nat → Prop) (A : Nat → Addr) (E : Er → Value) (N : Value) (m : Int) (hG : EvG w.heap.size E N (sv (A 3)) m w) (hA : Named w A E N) (hr : Reads w S (.list 1 (es.map strDt)) [v]) (hsz : ∀ s ∈ es, s.size ≤ reach) (hl : es.length * 16 ≤ reach) :
  Calls Tryz.prog 6 #[v] w (RetV (.bool true) w) := by
 obtain ⟨a, c, rfl, hlc, hcm, hcell⟩ := list_cells (f := fun s => Value.string s) hr
 have hl2 := hl
 unfold reach at hl2
 have Hr := Lib.hid hr
 clear hcell hr
 go_enter Tryz.func6, Tryz.ntmps6
 go_wp2_with fail
 refine (first_any w E N _ m hG).mono ?_
 rintro en w1 ⟨rfl, hc1⟩
 go_wp2_with fail
 refine (short_any es _ w1 S (Hr.out.chg0 hc1) hsz hl).mono ?_
 rintro en w2 ⟨rfl, hc2⟩
 have hc02 := hc1.tr hc2
 cases hsb : shortB es with
 | false =>
  clear hsb
  go_wp2_with fail
  go_ret
  exact ⟨rfl, hc02⟩
 | true =>
  have hsb2 : es.length ≤ 80 ∧ lineSum es ≤ 4000 := by
   unfold shortB at hsb
   simpa using hsb
  have Hsb := Lib.hid hsb2
  clear hsb hsb2
  go_wp2_with fail
  refine (texts_any es _ w2 S (Hr.out.chg0 hc02) (by omega)).mono ?_
  rintro en w3 ⟨v3, rfl, ho3, hc3⟩
  obtain ⟨a3, c3, rfl⟩ := ho3.form
  have hlm : (es.map strDt).length = es.length := List.length_map ..
  rw [hlm] at ho3 ⊢
  have hc03 := hc02.tr hc3
  have hsum3 : (es.map ByteArray.size).sum ≤ 10000 := by
   have h1 := Hsb.out.2
   unfold lineSum at h1
   omega
  have hr3 := ho3.strs (by have := Hsb.out.1; unfold maxLen; omega)
  have hrep := replay_any es _ w3 _ E N _ m ((hG.keep0 hc03).up hc03.size) hr3 hsum3
  have hrp2 := fun w' (h : Chg NoB w w') => replayR_any es (.slice a es.length c) w' S (Hr.out.chg0 h) hsum3
  have Hrp2 := Lib.hid hrp2
  have Hsum3 := Lib.hid hsum3
  clear ho3 hr3 hrp2 hsum3 hlm
  go_wp2_with fail
  refine hrep.mono ?_
  clear hrep
  rintro en w4 ⟨hc4, hm4⟩
  have hc04 := hc03.tr hc4
  have hq := Hrp2.out
  cases hrf : replayF es with
  | bad i e =>
   rw [hrf] at hm4 hq
   obtain ⟨fv, rfl, hf4⟩ := hm4
   have hi60 : i ≤ 1000000 := bad_le hrf
   have hA4 := hA.keep0 hc04
   have ht4 := Told.edit hA4 rfl e hi60 hf4
   obtain ⟨p, rfl, _⟩ := hf4
   have hpos := edCode_pos e
   have hq1 : ∀ w', Chg NoB w w' → Calls Tryz.prog 23 #[.slice a es.length c] w' (fun en w'' => Chg NoB w' w'' ∧ en = .returned (.tuple #[zeroNode, .int .i64 0, faultE (edCode e) (i : Nat)])) := fun w' h => hq w' h
   clear hq
   have Hq := Lib.hid hq1
   clear hq1
   generalize edCode e = ce at ht4 hpos Hq ⊢
   have hce := hpos.1
   unfold zeroNode
   go_wp2_with fail
   generalize hw5 : World.alloc w4 _ = w5
   have hc5 : Chg NoB w4 w5 := by
    rw [← hw5]
    repeat (first | exact Chg.refl _ _ | apply Chg.alloc | apply Chg.drew)
   have hb5 : Blk w5 (w4.heap.size) (ndCells 0 ⟨#[]⟩ 0 0 (.slice none 0 0)) 28 := by
    rw [← hw5]
    repeat (first | exact Blk.newAt (by first | rfl | (simp; done) | (simp; omega)) | apply Blk.alloc | apply Blk.drew)
   clear hw5
   have hcx := hc04.tr hc5
   refine ((Hq.out _ hcx)).mono ?_
   rintro en w6 ⟨hc6, rfl⟩
   have hc46 := hc5.tr hc6
   have hc06 := hcx.tr hc6
   have hb6 := hb5.keep hc6 nbE
   have ht6 := ht4.keepE hc46
   have hA6 := hA4.keep0 hc46
   unfold zeroNode faultE
   have y0 : w6.cell? ⟨w4.heap.size, 0, none⟩ = some (.int .i64 (0)) := hb6.cell 0
   have y1 : w6.cell? ⟨w4.heap.size, 1, none⟩ = some (.string ⟨#[]⟩) := hb6.cell 1
   have y2 : w6.cell? ⟨w4.heap.size, 2, none⟩ = some (.int .i64 (0)) := hb6.cell 2
   have y3 : w6.cell? ⟨w4.heap.size, 3, none⟩ = some (.int .i64 (0)) := hb6.cell 3
   have y4 : w6.cell? ⟨w4.heap.size, 4, none⟩ = some (.slice none 0 0) := hb6.cell 4
   have l6 := hb6.lt
   go_wp2_with fail
   generalize hw7 : World.alloc _ _ = w7
   have hc7 : Chg NoB w6 w7 := by
    rw [← hw7]
    repeat (first | exact Chg.refl _ _ | apply Chg.alloc | apply Chg.drew)
   clear hw7
   refine (isNode4_err (.iface 66 (.pointer (some ⟨p, 0, none⟩))) (ce) ((i : Nat)) w7 A (hA6.sents.keep0 hc7) (ht6.keepE hc7) hpos).mono ?_
   rintro en w8 ⟨rfl, hc8⟩
   go_wp2_with fail
   go_ret
   exact ⟨rfl, (hc06.tr hc7).tr hc8⟩
  | many =>
   rw [hrf] at hm4 hq
   obtain rfl := hm4
   have hA4 := hA.keep0 hc04
   have ht4 := hA4.told .bound
   have hpos : (0 : Int) < 2 ∧ (2 : Int) ≤ 100 := by decide
   obtain ⟨Tb, ub, hEb⟩ := hG.glo.errs.form .bound
   rw [hEb] at ht4 ⊢
   have ht4 : Told w4 A (.iface Tb ub) 2 (-1) := ht4
   have hq1 : ∀ w', Chg NoB w w' → Calls Tryz.prog 23 #[.slice a es.length c] w' (fun en w'' => Chg NoB w' w'' ∧ en = .returned (.tuple #[zeroNode, .int .i64 0, faultE 2 (-1)])) := fun w' h => hq w' h
   clear hq
   have Hq := Lib.hid hq1
   clear hq1
   unfold zeroNode
   go_wp2_with fail
   generalize hw5 : World.alloc w4 _ = w5
   have hc5 : Chg NoB w4 w5 := by
    rw [← hw5]
    repeat (first | exact Chg.refl _ _ | apply Chg.alloc | apply Chg.drew)
   have hb5 : Blk w5 (w4.heap.size) (ndCells 0 ⟨#[]⟩ 0 0 (.slice none 0 0)) 28 := by
    rw [← hw5]
    repeat (first | exact Blk.newAt (by first | rfl | (simp; done) | (simp; omega)) | apply Blk.alloc | apply Blk.drew)
   clear hw5
   have hcx := hc04.tr hc5
   refine ((Hq.out _ hcx)).mono ?_
   rintro en w6 ⟨hc6, rfl⟩
   have hc46 := hc5.tr hc6
   have hc06 := hcx.tr hc6
   have hb6 := hb5.keep hc6 nbE
   have ht6 := ht4.keepE hc46
   have hA6 := hA4.keep0 hc46
   unfold zeroNode faultE
   have y0 : w6.cell? ⟨w4.heap.size, 0, none⟩ = some (.int .i64 (0)) := hb6.cell 0
   have y1 : w6.cell? ⟨w4.heap.size, 1, none⟩ = some (.string ⟨#[]⟩) := hb6.cell 1
   have y2 : w6.cell? ⟨w4.heap.size, 2, none⟩ = some (.int .i64 (0)) := hb6.cell 2
   have y3 : w6.cell? ⟨w4.heap.size, 3, none⟩ = some (.int .i64 (0)) := hb6.cell 3
   have y4 : w6.cell? ⟨w4.heap.size, 4, none⟩ = some (.slice none 0 0) := hb6.cell 4
   have l6 := hb6.lt
   go_wp2_with fail
   generalize hw7 : World.alloc _ _ = w7
   have hc7 : Chg NoB w6 w7 := by
    rw [← hw7]
    repeat (first | exact Chg.refl _ _ | apply Chg.alloc | apply Chg.drew)
   clear hw7
   refine (isNode4_err (.iface Tb ub) (2) (-1) w7 A (hA6.sents.keep0 hc7) (ht6.keepE hc7) hpos).mono ?_
   rintro en w8 ⟨rfl, hc8⟩
   go_wp2_with fail
   go_ret
   exact ⟨rfl, (hc06.tr hc7).tr hc8⟩
  | ok l nx =>
   rw [hrf] at hm4 hq
   obtain ⟨v4, F4, rfl, ht4, _⟩ := hm4
   have hq1 : ∀ w', Chg NoB w w' → Calls Tryz.prog 23 #[.slice a es.length c] w' (fun en w'' => Chg NoB w' w'' ∧ ∃ v F, en = .returned (.tuple #[.agg #[.int .i64 0, .string rootName, .int .i64 1, .int .i64 0, v], .int .i64 nx, faultE 0 (-1)]) ∧ TrL w'' w'.heap.size l v F) := fun w' h => hq w' h
   have Hq := Lib.hid hq1
   have hokl : (rootNd l).ok := by
    have hgo : replayGo 0 es [] 1 = .ok l nx := by
     unfold replayF at hrf
     split at hrf
     ·cases hrf
     ·exact hrf
    have hS := (Sound.go _ _ _ _ _ _ sound0 hgo).1
    rcases hS.fit with rfl | hf
    ·exact ⟨⟨by decide, by decide⟩, by decide, ⟨by decide, by decide⟩, ⟨by decide, by decide⟩, by simp [reach], trivial⟩
    ·exact ⟨⟨by decide, by decide⟩, by decide, ⟨by decide, by decide⟩, ⟨by decide, by decide⟩, by have := weighs_len l; have := hf.small; unfold reach; omega, all_ok (slim_fit hf) (by have := hf.small; omega)⟩
   have Hokl := Lib.hid hokl
   obtain ⟨ta, tc, rfl, _, _⟩ := ht4.form
   clear hq hq1 hokl hrf
   go_wp2_with fail
   generalize hw5 : World.alloc w4 _ = w5
   have hc5 : Chg NoB w4 w5 := by
    rw [← hw5]
    repeat (first | exact Chg.refl _ _ | apply Chg.alloc | apply Chg.drew)
   have hb5 : Blk w5 (w4.heap.size) (ndCells 0 rootName 1 0 (.slice ta l.length tc)) 28 := by
    rw [← hw5]
    repeat (first | exact Blk.newAt (by first | rfl | (simp; done) | (simp; omega)) | apply Blk.alloc | apply Blk.drew)
   clear hw5
   have hcx := hc04.tr hc5
   refine (Hq.out _ hcx).mono ?_
   rintro en w6 ⟨hc6, v6, F6, rfl, ht6⟩
   obtain ⟨ua, uc, rfl, _, _⟩ := ht6.form
   have hc46 := hc5.tr hc6
   have hc06 := hcx.tr hc6
   have hb6 := hb5.keep hc6 nbE
   unfold faultE
   have y0 : w6.cell? ⟨w4.heap.size, 0, none⟩ = some (.int .i64 (0)) := hb6.cell 0
   have y1 : w6.cell? ⟨w4.heap.size, 1, none⟩ = some (.string rootName) := hb6.cell 1
   have y2 : w6.cell? ⟨w4.heap.size, 2, none⟩ = some (.int .i64 (1)) := hb6.cell 2
   have y3 : w6.cell? ⟨w4.heap.size, 3, none⟩ = some (.int .i64 (0)) := hb6.cell 3
   have y4 : w6.cell? ⟨w4.heap.size, 4, none⟩ = some (.slice ta l.length tc) := hb6.cell 4
   have l6 := hb6.lt
   have hrd4 : Reads w4 (fun _ => True) (rootNd l).dt [.int .i64 0, .string rootName, .int .i64 1, .int .i64 0, .slice ta l.length tc] := reads_nd.2 ⟨_, rfl, ht4.reads (fun _ _ => True.intro)⟩
   have hrd6 : Reads w6 (fun _ => True) (rootNd l).dt [.int .i64 0, .string rootName, .int .i64 1, .int .i64 0, .slice ua l.length uc] := reads_nd.2 ⟨_, rfl, ht6.reads (fun _ _ => True.intro)⟩
   have Hrd4 := Lib.hid hrd4
   have Hrd6 := Lib.hid hrd6
   clear hrd4 hrd6 ht4 ht6
   go_wp2_with fail
   generalize hw7 : World.alloc _ _ = w7
   have hc7 : Chg NoB w6 w7 := by
    rw [← hw7]
    repeat (first | exact Chg.refl _ _ | apply Chg.alloc | apply Chg.drew)
   clear hw7
   refine (isNode4_ok w7 _ _ (rootNd l) _ _ (Hrd4.out.chg0 (hc46.tr hc7)) (Hrd6.out.chg0 hc7) Hokl.out).mono ?_
   rintro en w8 ⟨rfl, hc8⟩
   go_wp2_with fail
   go_ret
   exact ⟨by first | rfl | simp, (hc06.tr hc7).tr hc8⟩
end Go.Proofs.YtgcmfpcgmkkobaaGreatDoor
