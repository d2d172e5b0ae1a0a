/-
  evolve.fresh and shredcolref4.freshOf: what a node that was not there holds; new memory; nothing else has changed.
-/
import Derived.Test.YtgcmfpcgmkkobaaGreatDoorRight
import Derived.Test.YtgcmfpcgmkkobaaGreatDoorSameData
set_option linter.unusedVariables false
set_option maxHeartbeats 20000000
set_option maxRecDepth 100000
set_option linter.unusedSimpArgs false
namespace Go.Proofs.YtgcmfpcgmkkobaaGreatDoor
open Go.RowKit
structure FitF (n : Nd) : Prop where
 shape : n.All Shp
 small : n.weigh ≤ 40
theorem FitF.sub {n c : Nd} (h : FitF n) (hc : c ∈ n.sub) : FitF c where
 shape := alls_at h.shape.subs c hc
 small := by
  have h1 := h.small
  have h2 := Nd.weigh_mem hc
  obtain ⟨i, nm, r, k, s⟩ := n
  simp only [Nd.weigh, Nd.sub] at h1 h2
  omega
theorem FitF.len {n : Nd} (h : FitF n) : n.sub.length ≤ 39 := by
 have h1 := h.small
 obtain ⟨i, nm, r, k, s⟩ := n
 have := len_weighs s
 simp only [Nd.weigh] at h1
 show s.length ≤ 39
 omega
theorem FitN.fresh {n : Nd} (h : FitN n) : FitF n := ⟨h.shape, h.small⟩
theorem nil_data (w : World) (S : Nat → Prop) : Reads w S (.list 6 (Dm.dts [])) [.slice none 0 0] := ⟨none, 0, rfl, Nat.le_refl _, Nat.zero_le _, .inl ⟨rfl, fun _ => rfl⟩⟩
def GrowRel (w : World) (g B : Nat) (nc : List Value) (gc : Value → List Value) (done : Nat → List Dm) (N : Nat) (vi : Value) (wr : World) : Prop :=
 ∃ j v, j ≤ N ∧ vi = .int .i64 (j : Nat) ∧ Chg NoB w wr ∧ Blk wr w.heap.size nc 28 ∧ Blk wr (w.heap.size + 1) (dmCells false 0 0 ⟨#[]⟩ (.slice none 0 0) (.slice none 0 0)) 43 ∧ Blk wr g (gc v) 43 ∧
  Own wr B 43 6 (fun b => B ≤ b) v (Dm.dts (done j))
theorem fresh_any : ∀ (m : Nat) (n : Nd) (w : World) (S : Nat → Prop) (cs : List Value), n.weigh ≤ m → Reads w S n.dt cs → FitF n →
  Calls Tryz.prog 74 #[.agg cs.toArray] w (RetNew (freshF n).dt w) := by
 intro m
 induction m with
 | zero => intro n w S cs hm; cases n; simp [Nd.weigh] at hm
 | succ m ih =>
  intro n w S cs hm hr hfit
  have hlen39 := hfit.len
  have hsubs : ∀ c ∈ n.sub, FitF c := fun c hc => hfit.sub hc
  obtain ⟨⟨hr1, hr3, hk0, hk5, hlf⟩, -⟩ : Shp n ∧ True := ⟨hfit.shape.here, trivial⟩
  obtain ⟨i, nm, r, k, s⟩ := n
  simp only [Nd.rep, Nd.kind, Nd.sub] at hr1 hr3 hk0 hk5 hlf hlen39 hsubs
  have hIH : ∀ c ∈ s, ∀ (w : World) (S : Nat → Prop) (cs : List Value), Reads w S c.dt cs → Calls Tryz.prog 74 #[.agg cs.toArray] w (RetNew (freshF c).dt w) :=
   fun c hc w S cs hr => ih c w S cs (by have := Nd.weigh_mem hc; simp only [Nd.weigh] at hm; omega) hr (hsubs c hc)
  have HI := Lib.hid hIH
  clear hIH ih hm hsubs hfit
  obtain ⟨sv, rfl, hs⟩ := reads_nd.1 hr
  obtain ⟨a, cap, rfl, hlen, hcap, hel⟩ := reads_subs hs
  clear hs hr
  unfold maxLen at hcap
  by_cases h2 : r = 2
  ·subst h2
   rw [show freshF (.mk i nm 2 k s) = .mk true 0 0 ⟨#[]⟩ [] [] from by simp [freshF]]
   go_enter Tryz.func74, Tryz.ntmps74
   go_wp2_with fail
   generalize hw1 : World.alloc _ _ = w1
   have hc1 : Chg NoB w w1 := by
    rw [← hw1]
    repeat (first | exact Chg.refl _ _ | apply Chg.alloc | apply Chg.drew)
   have hbE : Blk w1 (w.heap.size + 1) (dmCells true 0 0 ⟨#[]⟩ (.slice none 0 0) (.slice none 0 0)) 43 := by
    rw [← hw1]
    repeat (first | exact Blk.newAt (by first | rfl | (simp; done) | (simp; omega)) | apply Blk.alloc | apply Blk.drew)
   clear hw1
   have n0 : w1.cell? ⟨w.heap.size + 1, 0, none⟩ = some (.bool true) := hbE.cell 0
   have n1 : w1.cell? ⟨w.heap.size + 1, 1, none⟩ = some (.int .i64 (0)) := hbE.cell 1
   have n2 : w1.cell? ⟨w.heap.size + 1, 2, none⟩ = some (.int .i64 (0)) := hbE.cell 2
   have n3 : w1.cell? ⟨w.heap.size + 1, 3, none⟩ = some (.string ⟨#[]⟩) := hbE.cell 3
   have n4 : w1.cell? ⟨w.heap.size + 1, 4, none⟩ = some (.slice none 0 0) := hbE.cell 4
   have n5 : w1.cell? ⟨w.heap.size + 1, 5, none⟩ = some (.slice none 0 0) := hbE.cell 5
   refine bodyPost_ret (v := .agg #[.bool true, .int .i64 (0), .int .i64 0, .string ⟨#[]⟩, .slice none 0 0, .slice none 0 0]) (by simp [results, Tryz.results74, go_sem, n0, n1, n2, n3, n4, n5]) rfl ?_
   exact ⟨_, rfl, reads_dm.2 ⟨_, _, rfl, nil_data _ _, nil_data _ _⟩, hc1⟩
  by_cases h3 : r = 3
  ·subst h3
   rw [show freshF (.mk i nm 3 k s) = .mk false 0 0 ⟨#[]⟩ [] [] from by simp [freshF]]
   go_enter Tryz.func74, Tryz.ntmps74
   go_wp2_with fail
   generalize hw1 : World.alloc _ _ = w1
   have hc1 : Chg NoB w w1 := by
    rw [← hw1]
    repeat (first | exact Chg.refl _ _ | apply Chg.alloc | apply Chg.drew)
   have hbE : Blk w1 (w.heap.size + 1) (dmCells false 0 0 ⟨#[]⟩ (.slice none 0 0) (.slice none 0 0)) 43 := by
    rw [← hw1]
    repeat (first | exact Blk.newAt (by first | rfl | (simp; done) | (simp; omega)) | apply Blk.alloc | apply Blk.drew)
   clear hw1
   have n0 : w1.cell? ⟨w.heap.size + 1, 0, none⟩ = some (.bool false) := hbE.cell 0
   have n1 : w1.cell? ⟨w.heap.size + 1, 1, none⟩ = some (.int .i64 (0)) := hbE.cell 1
   have n2 : w1.cell? ⟨w.heap.size + 1, 2, none⟩ = some (.int .i64 (0)) := hbE.cell 2
   have n3 : w1.cell? ⟨w.heap.size + 1, 3, none⟩ = some (.string ⟨#[]⟩) := hbE.cell 3
   have n4 : w1.cell? ⟨w.heap.size + 1, 4, none⟩ = some (.slice none 0 0) := hbE.cell 4
   have n5 : w1.cell? ⟨w.heap.size + 1, 5, none⟩ = some (.slice none 0 0) := hbE.cell 5
   refine bodyPost_ret (v := .agg #[.bool false, .int .i64 (0), .int .i64 0, .string ⟨#[]⟩, .slice none 0 0, .slice none 0 0]) (by simp [results, Tryz.results74, go_sem, n0, n1, n2, n3, n4, n5]) rfl ?_
   exact ⟨_, rfl, reads_dm.2 ⟨_, _, rfl, nil_data _ _, nil_data _ _⟩, hc1⟩
  have h1 : r = 1 := by omega
  subst h1
  clear h2 h3
  by_cases hk : k = 0
  case neg =>
   have hkb : (k == 0) = false := by simpa using hk
   rw [show freshF (.mk i nm 1 k s) = .mk false k 0 ⟨#[]⟩ [] [] from by simp [freshF, hk]]
   go_enter Tryz.func74, Tryz.ntmps74
   go_wp2_with fail
   generalize hw1 : World.alloc _ _ = w1
   have hc1 : Chg NoB w w1 := by
    rw [← hw1]
    repeat (first | exact Chg.refl _ _ | apply Chg.alloc | apply Chg.drew)
   have hbE : Blk w1 (w.heap.size + 1) (dmCells false k 0 ⟨#[]⟩ (.slice none 0 0) (.slice none 0 0)) 43 := by
    rw [← hw1]
    repeat (first | exact Blk.newAt (by first | rfl | (simp; done) | (simp; omega)) | apply Blk.alloc | apply Blk.drew)
   clear hw1
   have n0 : w1.cell? ⟨w.heap.size + 1, 0, none⟩ = some (.bool false) := hbE.cell 0
   have n1 : w1.cell? ⟨w.heap.size + 1, 1, none⟩ = some (.int .i64 (k)) := hbE.cell 1
   have n2 : w1.cell? ⟨w.heap.size + 1, 2, none⟩ = some (.int .i64 (0)) := hbE.cell 2
   have n3 : w1.cell? ⟨w.heap.size + 1, 3, none⟩ = some (.string ⟨#[]⟩) := hbE.cell 3
   have n4 : w1.cell? ⟨w.heap.size + 1, 4, none⟩ = some (.slice none 0 0) := hbE.cell 4
   have n5 : w1.cell? ⟨w.heap.size + 1, 5, none⟩ = some (.slice none 0 0) := hbE.cell 5
   refine bodyPost_ret (v := .agg #[.bool false, .int .i64 (k), .int .i64 0, .string ⟨#[]⟩, .slice none 0 0, .slice none 0 0]) (by simp [results, Tryz.results74, go_sem, n0, n1, n2, n3, n4, n5]) rfl ?_
   exact ⟨_, rfl, reads_dm.2 ⟨_, _, rfl, nil_data _ _, nil_data _ _⟩, hc1⟩
  subst hk
  rw [show freshF (.mk i nm 1 0 s) = .mk false 0 0 ⟨#[]⟩ [] (s.map freshF) from by simp [freshF, freshL_eq]]
  go_enter Tryz.func74, Tryz.ntmps74
  go_wp2_with fail
  go_loopw [27] (fun vi wr => GrowRel w (w.heap.size + 2) (w.heap.size + 3) (ndCells i nm 1 0 (.slice a s.length cap)) (fun v => dmCells false 0 0 ⟨#[]⟩ (.slice none 0 0) v) (fun j => (s.take j).map freshF) s.length vi wr) (fun vi _ => s.length - (intOf vi).toNat)
  case atStart =>
   refine ⟨0, _, Nat.zero_le _, rfl, ?_, ?_, ?_, ?_, by simpa [Dm.dts] using Own.nil _ _ _ _ _⟩
   ·exact (((Chg.refl _ _).alloc _).alloc _).alloc _
   ·exact ((Blk.newAt rfl).alloc _).alloc _
   ·exact (Blk.newAt (by simp)).alloc _
   ·exact Blk.newAt (by simp)
  case round =>
   obtain ⟨j, v, hj, rfl, hc, hb0, hb1, hb2, ho⟩ := hrel
   dsimp only at hb2 ho
   have hsz : w.heap.size + 3 ≤ wr.heap.size := hb2.lt
   by_cases hlt : j < s.length
   ·have hltI : (j : Int) < (s.length : Int) := by omega
    obtain ⟨b, off, rfl, hSb, hbw, hE⟩ := hel (by omega)
    obtain ⟨ecs, hl5, hcells, hre⟩ := hE.get j s[j].dt (by simp [hlt])
    have Hc1 := Lib.hid (HI.out _ (List.getElem_mem hlt))
    have Htake := Lib.hid (show (s.take (j + 1)).map freshF = (s.take j).map freshF ++ [freshF s[j]] by rw [List.take_succ_eq_append_getElem hlt, List.map_append]; rfl)
    generalize s[j] = nj at hre Hc1 Htake
    obtain ⟨i1, n1, r1, k1, s1⟩ := nj
    obtain ⟨v1, rfl, hs1⟩ := reads_nd.1 hre
    obtain ⟨sa1, cap1, rfl, _, _, _⟩ := reads_subs hs1
    clear hs1
    have ef : ∀ t c, [Value.int .i64 i1, .string n1, .int .i64 r1, .int .i64 k1, (.slice sa1 s1.length cap1)][t]? = some c → wr.cell? ⟨b, off + j * 5 + t, none⟩ = some c := fun t c ht => (hc.cell (p := ⟨b, off + j * 5 + t, none⟩) hbw (fun e => e)).trans (hcells t c ht)
    have e0 : wr.cell? ⟨b, off + j * 5, none⟩ = some (.int .i64 i1) := ef 0 _ rfl
    have e1 : wr.cell? ⟨b, off + j * 5 + 1, none⟩ = some (.string n1) := ef 1 _ rfl
    have e2 : wr.cell? ⟨b, off + j * 5 + 2, none⟩ = some (.int .i64 r1) := ef 2 _ rfl
    have e3 : wr.cell? ⟨b, off + j * 5 + 3, none⟩ = some (.int .i64 k1) := ef 3 _ rfl
    have e4 : wr.cell? ⟨b, off + j * 5 + 4, none⟩ = some (.slice sa1 s1.length cap1) := ef 4 _ rfl
    clear ef
    go_wp2_with fail
    generalize hw2 : World.alloc wr _ = w2
    have hc2 : Chg NoB wr w2 := by
     rw [← hw2]
     repeat (first | exact Chg.refl _ _ | apply Chg.alloc | apply Chg.drew)
    have hn2 : Blk w2 (wr.heap.size) (ndCells i1 n1 r1 k1 (.slice sa1 s1.length cap1)) 28 := by
     rw [← hw2]
     repeat (first | exact Blk.newAt (by first | rfl | (simp; done) | (simp; omega)) | apply Blk.alloc | apply Blk.drew)
    clear hw2
    replace hb0 := hb0.keep hc2 nbE
    replace hb1 := hb1.keep hc2 nbE
    replace hb2 := hb2.keep hc2 nbE
    have hc02 := hc.tr hc2
    have hobr := ho.block
    replace ho := ho.keep hc2 (fun _ _ e => nbE e) (fun _ _ e => nbE e)
    have hsz2 := hc2.size
    have g5 : w2.cell? ⟨w.heap.size + 2, 5, none⟩ = some v := hb2.cell 5
    refine wp_region_n (fun w' => w'.cell? ⟨wr.heap.size, 0, none⟩ = some (.int .i64 i1) ∧ w'.cell? ⟨wr.heap.size, 1, none⟩ = some (.string n1) ∧ w'.cell? ⟨wr.heap.size, 2, none⟩ = some (.int .i64 r1) ∧ w'.cell? ⟨wr.heap.size, 3, none⟩ = some (.int .i64 k1) ∧ w'.cell? ⟨wr.heap.size, 4, none⟩ = some (.slice sa1 s1.length cap1) ∧ w'.cell? ⟨w.heap.size + 2, 5, none⟩ = some v) [7] (by kernel_rfl) ?_ (fun hSh => ?_)
    ·exact ⟨hn2.cell 0, hn2.cell 1, hn2.cell 2, hn2.cell 3, hn2.cell 4, g5⟩
    refine n_from 0 ?_
    intro htk
    iterate 3
     refine n_tB (v := ?_) htk rfl (Or.inl ⟨by rfl, ?_⟩) ?_
     rotate_left 1
     ·(intro w' hSw; (try dsimp only at hSw); go_simp; try with_reducible rfl)
     clear htk
     intro htk
     simp only [Nat.reduceAdd] at htk
     simp only [Act.put, qA, qB, qC, qD, qE, qF]
    clear htk
    refine n_step 3 rfl (by kernel_rfl) ?_
    go_wp2_with fail
    refine (Hc1.out w2.drew S _ (hre.chg0 hc02.drew)).mono ?_
    rintro e w3 ⟨ecs, rfl, hr3, hc3⟩
    replace hc3 := hc3.ofDrew
    generalize hX : freshF (.mk i1 n1 r1 k1 s1) = dx at hr3
    have HX := Lib.hid hX
    clear hX
    obtain ⟨b9, k9, m9, s9, l9, f9⟩ := dx
    obtain ⟨vl9, vf9, rfl, hs8, hs9⟩ := reads_dm.1 hr3
    obtain ⟨a8, c8, rfl, _, _, _⟩ := reads_data hs8
    obtain ⟨a9, c9, rfl, _, _, _⟩ := reads_data hs9
    clear hs8 hs9
    go_wp2_with fail
    refine ⟨fun _ => ?_, fun hSk => ?_⟩
    ·have hkk : ∀ p v, (w2).cell? p = some v → (w3).cell? p = some v := fun p v h => (hc3.cell (lt_of_cell h) nbE).trans h
     exact ⟨hkk _ _ (hn2.cell 0), hkk _ _ (hn2.cell 1), hkk _ _ (hn2.cell 2), hkk _ _ (hn2.cell 3), hkk _ _ (hn2.cell 4), hkk _ _ g5⟩
    replace hSk := hSk (by rfl)
    refine n_step 4 rfl (by kernel_rfl) ?_
    go_wp2_with fail
    generalize hw4 : World.alloc w3 _ = w4
    have hc4 : Chg NoB w3 w4 := by
     rw [← hw4]
     repeat (first | exact Chg.refl _ _ | apply Chg.alloc | apply Chg.drew)
    have hbn : Blk w4 (w3.heap.size) ([.bool b9, .int .i64 k9, .int .i64 m9, .string s9, .slice a8 l9.length c8, .slice a9 f9.length c9]) 43 := by
     rw [← hw4]
     repeat (first | exact Blk.newAt (by first | rfl | (simp; done) | (simp; omega)) | apply Blk.alloc | apply Blk.drew)
    clear hw4
    have hc24 := hc3.tr hc4
    have hr4 := hr3.chg0 hc4
    have ho4 := ho.keep hc24 (fun _ _ e => nbE e) (fun _ _ e => nbE e)
    have hob := ho.block
    refine ⟨fun _ => ?_, fun hSk => ?_⟩
    ·have hkk : ∀ p v, (w2).cell? p = some v → (w4).cell? p = some v := fun p v h => (hc24.cell (lt_of_cell h) nbE).trans h
     exact ⟨hkk _ _ (hn2.cell 0), hkk _ _ (hn2.cell 1), hkk _ _ (hn2.cell 2), hkk _ _ (hn2.cell 3), hkk _ _ (hn2.cell 4), hkk _ _ g5⟩
    replace hSk := hSk (by rfl)
    refine n_step 5 rfl (by kernel_rfl) ?_
    have hlA : (Dm.dts ((s.take j).map freshF)).length = j := by rw [Dm.dts_eq, List.length_map, List.length_map, List.length_take]; omega
    refine wpList_own rfl (.tmp 32) (.tmp 35) 41 rfl (w.heap.size + 3) 43 Tryz.underlying41 infoDatum rfl (by decide) rfl ho4 rfl [Dm.dt (.mk b9 k9 m9 s9 l9 f9)] _ rfl (ReadsC.single rfl (hr4.mono ?_)) hbn.news (fun e => by cases e) ?_ ?_ ?_ ?_
    ·intro b hb
     have hb : w2.heap.size ≤ b := hb
     exact ⟨by omega, fun e => by have := (hob b e).2; omega⟩
    ·rw [hlA]; unfold maxLen; omega
    ·rw [hlA]; omega
    ·have := hc24.size; omega
    intro ao5 cap5 w5 ho5 hc5 hat5
    rw [hlA] at ho5 ⊢
    have hfarG : ¬ (v.ownBlock = some (w.heap.size + 2)) := fun e => by have := (hob _ e).1; omega
    have hfar1 : ¬ (v.ownBlock = some (w.heap.size + 1)) := fun e => by have := (hob _ e).1; omega
    have hfar0 : ¬ (v.ownBlock = some w.heap.size) := fun e => by have := (hob _ e).1; omega
    have hc05 : Chg NoB w w5 := (hc02.tr hc24).trans hc5 (fun b e => .inr (by have := (hob b e).1; omega))
    have hb05 := (hb0.keep hc24 nbE).keep hc5 hfar0
    have hb15 := (hb1.keep hc24 nbE).keep hc5 hfar1
    have hb25 := (hb2.keep hc24 nbE).keep hc5 hfarG
    have hc25 : Chg (fun b => v.ownBlock = some b) w2 w5 := (hc24.mono (fun _ _ e => nbE e)).trans hc5 (fun _ e => .inl e)
    go_wp2_with fail
    refine ⟨fun _ => ?_, fun hSk => ?_⟩
    ·have hkk : ∀ p x, ¬ (v.ownBlock = some p.block) → (w2).cell? p = some x → (w5).cell? p = some x := fun p x hne h => (hc25.cell (lt_of_cell h) hne).trans h
     have hfarN : ¬ (v.ownBlock = some wr.heap.size) := fun e => by have := (hobr _ e).2; omega
     exact ⟨hkk _ _ hfarN (hn2.cell 0), hkk _ _ hfarN (hn2.cell 1), hkk _ _ hfarN (hn2.cell 2), hkk _ _ hfarN (hn2.cell 3), hkk _ _ hfarN (hn2.cell 4), hkk _ _ hfarG g5⟩
    replace hSk := hSk (by rfl)
    refine n_tA (v := ?_) 6 rfl (Or.inl ⟨by rfl, ?_⟩) ?_
    rotate_left 1
    ·(intro w' hSw; (try dsimp only at hSw); go_simp; try with_reducible rfl)
    simp only [Act.put, qA, qB, qC, qD, qE, qF]
    refine n_step 7 rfl (by kernel_rfl) ?_
    have o5 : w5.cell? ⟨w.heap.size + 2, 5, none⟩ = some v := hb25.cell 5
    have f5 : w5.frozen? ⟨w.heap.size + 2, 5, none⟩ = false := hb25.free 5
    go_wp2_with fail
    refine ⟨fun hx => absurd hx (by decide), fun _ => ?_⟩
    refine n_done (by kernel_rfl) ?_
    go_wp2_with fail
    go_roundw
    case rel =>
     refine ⟨j + 1, _, hlt, by go_num, hc05.setCell (.inr (by dsimp only; omega)) _, hb05.other (by dsimp only; omega) _, hb15.other (by dsimp only; omega) _, hb25.set 5 _, ?_⟩
     show Own _ _ _ _ _ _ (Dm.dts ((s.take (j + 1)).map freshF))
     rw [Htake.out, Dm.dts_append, HX.out]
     exact ho5.setCell (fun b hb => by have hb : w.heap.size + 3 ≤ b := hb; dsimp only; omega) (by dsimp only; omega) _
    case measure => simp [intOf]; omega
   ·have hjl : j = s.length := by omega
    subst hjl
    have hltI : ¬ ((s.length : Int) < (s.length : Int)) := by omega
    rw [List.take_length] at ho
    obtain ⟨ao, cap', hv⟩ := ho.form
    have hlm : (Dm.dts (s.map freshF)).length = s.length := by rw [Dm.dts_eq, List.length_map, List.length_map]
    rw [hlm] at hv
    subst hv
    have c0 : wr.cell? ⟨w.heap.size + 2, 0, none⟩ = some (.bool false) := hb2.cell 0
    have c1 : wr.cell? ⟨w.heap.size + 2, 1, none⟩ = some (.int .i64 (0)) := hb2.cell 1
    have c2 : wr.cell? ⟨w.heap.size + 2, 2, none⟩ = some (.int .i64 (0)) := hb2.cell 2
    have c3 : wr.cell? ⟨w.heap.size + 2, 3, none⟩ = some (.string ⟨#[]⟩) := hb2.cell 3
    have c4 : wr.cell? ⟨w.heap.size + 2, 4, none⟩ = some (.slice none 0 0) := hb2.cell 4
    have c5 : wr.cell? ⟨w.heap.size + 2, 5, none⟩ = some (.slice ao s.length cap') := hb2.cell 5
    have d0 : wr.cell? ⟨w.heap.size + 1, 0, none⟩ = some (.bool false) := hb1.cell 0
    have d1 : wr.cell? ⟨w.heap.size + 1, 1, none⟩ = some (.int .i64 (0)) := hb1.cell 1
    have d2 : wr.cell? ⟨w.heap.size + 1, 2, none⟩ = some (.int .i64 (0)) := hb1.cell 2
    have d3 : wr.cell? ⟨w.heap.size + 1, 3, none⟩ = some (.string ⟨#[]⟩) := hb1.cell 3
    have d4 : wr.cell? ⟨w.heap.size + 1, 4, none⟩ = some (.slice none 0 0) := hb1.cell 4
    have d5 : wr.cell? ⟨w.heap.size + 1, 5, none⟩ = some (.slice none 0 0) := hb1.cell 5
    have f0 : wr.frozen? ⟨w.heap.size + 1, 0, none⟩ = false := hb1.free 0
    have f1 : wr.frozen? ⟨w.heap.size + 1, 1, none⟩ = false := hb1.free 1
    have f2 : wr.frozen? ⟨w.heap.size + 1, 2, none⟩ = false := hb1.free 2
    have f3 : wr.frozen? ⟨w.heap.size + 1, 3, none⟩ = false := hb1.free 3
    have f4 : wr.frozen? ⟨w.heap.size + 1, 4, none⟩ = false := hb1.free 4
    have f5 : wr.frozen? ⟨w.heap.size + 1, 5, none⟩ = false := hb1.free 5
    go_wp2_with fail
    have hbE := store6 hb1 (.bool false) (.int .i64 (0)) (.int .i64 (0)) (.string ⟨#[]⟩) (.slice none 0 0) (.slice ao s.length cap')
    have hsE := store6_chg wr (w.heap.size + 1) (.bool false) (.int .i64 (0)) (.int .i64 (0)) (.string ⟨#[]⟩) (.slice none 0 0) (.slice ao s.length cap')
    have hcE := hc.trans hsE (fun i e => .inr (by have e : i = w.heap.size + 1 := e; omega))
    generalize World.setCell (World.setCell (World.setCell (World.setCell (World.setCell (World.setCell wr ⟨w.heap.size + 1, 0, none⟩ (.bool false)) ⟨w.heap.size + 1, 1, none⟩ (.int .i64 (0))) ⟨w.heap.size + 1, 2, none⟩ (.int .i64 (0))) ⟨w.heap.size + 1, 3, none⟩ (.string ⟨#[]⟩)) ⟨w.heap.size + 1, 4, none⟩ (.slice none 0 0)) ⟨w.heap.size + 1, 5, none⟩ (.slice ao s.length cap') = wE at hbE hsE hcE ⊢
    have n0 : wE.cell? ⟨w.heap.size + 1, 0, none⟩ = some (.bool false) := hbE.cell 0
    have n1 : wE.cell? ⟨w.heap.size + 1, 1, none⟩ = some (.int .i64 (0)) := hbE.cell 1
    have n2 : wE.cell? ⟨w.heap.size + 1, 2, none⟩ = some (.int .i64 (0)) := hbE.cell 2
    have n3 : wE.cell? ⟨w.heap.size + 1, 3, none⟩ = some (.string ⟨#[]⟩) := hbE.cell 3
    have n4 : wE.cell? ⟨w.heap.size + 1, 4, none⟩ = some (.slice none 0 0) := hbE.cell 4
    have n5 : wE.cell? ⟨w.heap.size + 1, 5, none⟩ = some (.slice ao s.length cap') := hbE.cell 5
    refine bodyPost_ret (v := .agg #[.bool false, .int .i64 (0), .int .i64 0, .string ⟨#[]⟩, .slice none 0 0, .slice ao s.length cap']) (by simp [results, Tryz.results74, go_sem, n0, n1, n2, n3, n4, n5]) rfl ?_
    refine ⟨_, rfl, reads_dm.2 ⟨_, _, rfl, nil_data _ _, ?_⟩, hcE⟩
    have hof := ho.keep hsE (fun b hb e => by have hb : w.heap.size + 3 ≤ b := hb; have e : b = w.heap.size + 1 := e; omega) (fun b hb e => by have := (ho.block b hb).1; have e : b = w.heap.size + 1 := e; omega)
    exact hof.reads (fun b hb => by have hb : w.heap.size + 3 ≤ b := hb; show w.heap.size ≤ b; omega) (fun b hb _ => by show w.heap.size ≤ b; omega) (by rw [hlm]; unfold maxLen; omega)
end Go.Proofs.YtgcmfpcgmkkobaaGreatDoor
