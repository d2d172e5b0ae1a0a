/-
 shredcolref4.CarryOf: what evolve.Move makes of a right datum; new memory; nothing else has changed.
-/
import Derived.Test.YtgcmfpcgmkkobaaGreatDoorMove
import Derived.Test.YtgcmfpcgmkkobaaGreatDoorPackM
set_option linter.unusedVariables false
set_option linter.unusedSimpArgs false
namespace Go.Proofs.YtgcmfpcgmkkobaaGreatDoor
open Go.RowKit

/-- Within a round: x holds what the nodes so far have made of it. -/
def InRel (lo xb : Nat) (wx : World) (M : List (Int × (Nd → Dm))) (c : Nd) (N : Nat) (vi : Value) (wr : World) : Prop :=
 ∃ (i : Nat) (b9 : Bool) (k9 m9 : Int) (s9 : ByteArray) (l9 f9 : List Dm) (vl vf : Value), i ≤ N ∧ vi = .int .i64 (i : Nat) ∧ Chg (OneB xb) wx wr ∧ pickF (M.take i) c = .mk b9 k9 m9 s9 l9 f9 ∧
  Blk wr xb (dmCells b9 k9 m9 s9 vl vf) 43 ∧ Reads wr (fun b => lo ≤ b ∧ b ≠ xb) (Dm.mk b9 k9 m9 s9 l9 f9).dt (dmCells b9 k9 m9 s9 vl vf)

set_option maxHeartbeats 8000000 in
set_option maxRecDepth 100000 in
theorem carryOf_any : ∀ (m : Nat) (d : Dm) (a b : Nd) (one : Bool) (w : World) (Sa Sb Sd : Nat → Prop) (ca cb cd : List Value), d.weigh ≤ m → Reads w Sa a.dt ca → Reads w Sb b.dt cb → Reads w Sd d.dt cd → FitN a → FitN b → rightF d a one = none →
  Calls Tryz.prog 28 #[.agg ca.toArray, .agg cb.toArray, .agg cd.toArray, .bool one] w (RetNew (moveF d a b one).dt w) := by
 intro m
 induction m with
 | zero => intro d a b one w Sa Sb Sd ca cb cd hm; cases d; simp [Dm.weigh] at hm
 | succ m ih =>
  intro d a b one w Sa Sb Sd ca cb cd hm hra hrb hrd hfa hfb hright
  obtain ⟨no, k, v, s, l, f⟩ := d
  simp only [Dm.weigh] at hm
  cases no with
  | true =>
   obtain ⟨i, nm, rp, kd, sa⟩ := a
   obtain ⟨i', nm', rp', kd', sb⟩ := b
   obtain ⟨va, rfl, hsa⟩ := reads_nd.1 hra
   obtain ⟨vb, rfl, hsb⟩ := reads_nd.1 hrb
   obtain ⟨vl, vf, rfl, hsl, hsf⟩ := reads_dm.1 hrd
   obtain ⟨aa, ac, rfl, hal, hac, hea⟩ := reads_subs hsa
   obtain ⟨ba, bc, rfl, hbl, hbc, heb⟩ := reads_subs hsb
   obtain ⟨al, cl, rfl, hll, hlc, hel⟩ := reads_data hsl
   obtain ⟨af, cf, rfl, hfl, hfc, hef⟩ := reads_data hsf
   have Hsa := Lib.hid hsa
   clear hsa hsb hsl hsf hra hrb hrd
   unfold maxLen at hac hbc hlc hfc
   rw [show moveF (.mk true k v s l f) (.mk i nm rp kd sa) (.mk i' nm' rp' kd' sb) one = .mk true 0 0 ⟨#[]⟩ [] [] from by simp [moveF]]
   go_enter Tryz.func28, Tryz.ntmps28
   go_wp2_with fail
   generalize hw1 : World.alloc _ _ = w1
   have hc1 : Chg NoB w w1 := by
    rw [← hw1]
    repeat (first | exact Chg.refl _ _ | apply Chg.alloc | apply Chg.drew)
   have hbE : Blk w1 (w.heap.size + 3) (dmCells true 0 0 ⟨#[]⟩ (.slice none 0 0) (.slice none 0 0)) 43 := by
    rw [← hw1]
    repeat (first | exact Blk.newAt (by first | rfl | (simp; done) | (simp; omega)) | apply Blk.alloc | apply Blk.drew)
   clear hw1
   have n0 : w1.cell? ⟨w.heap.size + 3, 0, none⟩ = some (.bool true) := hbE.cell 0
   have n1 : w1.cell? ⟨w.heap.size + 3, 1, none⟩ = some (.int .i64 (0)) := hbE.cell 1
   have n2 : w1.cell? ⟨w.heap.size + 3, 2, none⟩ = some (.int .i64 (0)) := hbE.cell 2
   have n3 : w1.cell? ⟨w.heap.size + 3, 3, none⟩ = some (.string ⟨#[]⟩) := hbE.cell 3
   have n4 : w1.cell? ⟨w.heap.size + 3, 4, none⟩ = some (.slice none 0 0) := hbE.cell 4
   have n5 : w1.cell? ⟨w.heap.size + 3, 5, none⟩ = some (.slice none 0 0) := hbE.cell 5
   refine bodyPost_ret (v := .agg #[.bool true, .int .i64 (0), .int .i64 (0), .string ⟨#[]⟩, .slice none 0 0, .slice none 0 0]) (by simp [results, Tryz.results28, go_sem, n0, n1, n2, n3, n4, n5]) rfl ?_
   exact ⟨_, rfl, reads_dm.2 ⟨_, _, rfl, nil_data _ _, nil_data _ _⟩, hc1⟩
  | false =>
  by_cases hL : a.rep = 3 ∧ one = false
  ·obtain ⟨h3, rfl⟩ := hL
   obtain ⟨hl40, hrl⟩ := right_list hright rfl h3 rfl
   have hrl' := rightL_none.1 hrl
   have HI := Lib.hid (show ∀ x ∈ l, ∀ (w : World) (Sa Sb Sd : Nat → Prop) (ca cb cd : List Value), Reads w Sa a.dt ca → Reads w Sb b.dt cb → Reads w Sd x.dt cd → Calls Tryz.prog 28 #[.agg ca.toArray, .agg cb.toArray, .agg cd.toArray, .bool true] w (RetNew (moveF x a b true).dt w) from
    fun x hx w Sa Sb Sd ca cb cd h1 h2 h3 => ih x a b true w Sa Sb Sd ca cb cd (by have := Dm.weigh_mem hx; omega) h1 h2 h3 hfa hfb (hrl' x hx))
   clear ih hm hright hrl hrl'
   have Hra := Lib.hid hra
   have Hrb := Lib.hid hrb
   obtain ⟨i, nm, rp, kd, sa⟩ := a
   obtain ⟨i', nm', rp', kd', sb⟩ := b
   have h3 : rp = 3 := h3
   subst h3
   obtain ⟨va, rfl, hsa⟩ := reads_nd.1 hra
   obtain ⟨vb, rfl, hsb⟩ := reads_nd.1 hrb
   obtain ⟨vl, vf, rfl, hsl, hsf⟩ := reads_dm.1 hrd
   obtain ⟨aa, ac, rfl, hal, hac, hea⟩ := reads_subs hsa
   obtain ⟨ba, bc, rfl, hbl, hbc, heb⟩ := reads_subs hsb
   obtain ⟨al, cl, rfl, hll, hlc, hel⟩ := reads_data hsl
   obtain ⟨af, cf, rfl, hfl, hfc, hef⟩ := reads_data hsf
   have Hsa := Lib.hid hsa
   clear hsa hsb hsl hsf hra hrb hrd
   unfold maxLen at hac hbc hlc hfc
   rw [show moveF (.mk false k v s l f) (.mk i nm 3 kd sa) (.mk i' nm' rp' kd' sb) false = .mk false 0 0 ⟨#[]⟩ (l.map fun x => moveF x (.mk i nm 3 kd sa) (.mk i' nm' rp' kd' sb) true) [] from by simp [moveF, Nd.rep, moveL_eq]]
   go_enter Tryz.func28, Tryz.ntmps28
   go_wp2_with fail
   go_loopw [10] (fun vi wr => MvRel w (ndCells i nm 3 kd (.slice aa sa.length ac)) (ndCells i' nm' rp' kd' (.slice ba sb.length bc)) (dmCells false k v s (.slice al l.length cl) (.slice af f.length cf)) (fun v => dmCells false 0 0 ⟨#[]⟩ v (.slice none 0 0)) (fun j => (l.take j).map fun x => moveF x (.mk i nm 3 kd sa) (.mk i' nm' rp' kd' sb) true) l.length vi wr) (fun vi _ => l.length - (intOf vi).toNat)
   case atStart =>
    refine ⟨0, _, Nat.zero_le _, rfl, ?_, ?_, ?_, ?_, ?_, ?_, by simpa [Dm.dts] using Own.nil _ _ _ _ _⟩
    ·repeat (first | exact Chg.refl _ _ | apply Chg.alloc)
    ·repeat (first | exact Blk.newAt (by first | rfl | (simp; done) | (simp; omega)) | apply Blk.alloc)
    ·repeat (first | exact Blk.newAt (by first | rfl | (simp; done) | (simp; omega)) | apply Blk.alloc)
    ·repeat (first | exact Blk.newAt (by first | rfl | (simp; done) | (simp; omega)) | apply Blk.alloc)
    ·repeat (first | exact Blk.newAt (by first | rfl | (simp; done) | (simp; omega)) | apply Blk.alloc)
    ·repeat (first | exact Blk.newAt (by first | rfl | (simp; done) | (simp; omega)) | apply Blk.alloc)
   case round =>
    obtain ⟨j, v0, hj, rfl, hc, hb0, hb1, hb2, hb3, hb4, ho⟩ := hrel
    dsimp only at hb4 ho
    have hsz : w.heap.size + 5 ≤ wr.heap.size := hb4.lt
    have hobr := ho.block
    have hfarAll : ∀ x, (x < w.heap.size + 5 ∨ wr.heap.size ≤ x) → ¬ (v0.ownBlock = some x) := fun x hx e => by
     have h1 := (hobr _ e).1
     have h2 := (hobr _ e).2
     omega
    have p0 : wr.cell? ⟨w.heap.size, 0, none⟩ = some (.int .i64 (i)) := hb0.cell 0
    have p1 : wr.cell? ⟨w.heap.size, 1, none⟩ = some (.string nm) := hb0.cell 1
    have p2 : wr.cell? ⟨w.heap.size, 2, none⟩ = some (.int .i64 (3)) := hb0.cell 2
    have p3 : wr.cell? ⟨w.heap.size, 3, none⟩ = some (.int .i64 (kd)) := hb0.cell 3
    have p4 : wr.cell? ⟨w.heap.size, 4, none⟩ = some (.slice aa sa.length ac) := hb0.cell 4
    have q0 : wr.cell? ⟨w.heap.size + 1, 0, none⟩ = some (.int .i64 (i')) := hb1.cell 0
    have q1 : wr.cell? ⟨w.heap.size + 1, 1, none⟩ = some (.string nm') := hb1.cell 1
    have q2 : wr.cell? ⟨w.heap.size + 1, 2, none⟩ = some (.int .i64 (rp')) := hb1.cell 2
    have q3 : wr.cell? ⟨w.heap.size + 1, 3, none⟩ = some (.int .i64 (kd')) := hb1.cell 3
    have q4 : wr.cell? ⟨w.heap.size + 1, 4, none⟩ = some (.slice ba sb.length bc) := hb1.cell 4
    have d4 : wr.cell? ⟨w.heap.size + 2, 4, none⟩ = some (.slice al l.length cl) := hb2.cell 4
    by_cases hlt : j < l.length
    ·have hltI : (j : Int) < (l.length : Int) := by omega
     obtain ⟨b', off, rfl, hSb, hbw, hE⟩ := hel (by omega)
     obtain ⟨ecs, hl6, hcells, hre⟩ := hE.get j l[j].dt (by simp [hlt])
     have Hc1 := Lib.hid (HI.out _ (List.getElem_mem hlt))
     have Htake := Lib.hid (show ((l.take (j + 1)).map fun x => moveF x (.mk i nm 3 kd sa) (.mk i' nm' rp' kd' sb) true) = ((l.take j).map fun x => moveF x (.mk i nm 3 kd sa) (.mk i' nm' rp' kd' sb) true) ++ [moveF l[j] (.mk i nm 3 kd sa) (.mk i' nm' rp' kd' sb) true] by rw [List.take_succ_eq_append_getElem hlt, List.map_append]; rfl)
     generalize l[j] = dj at hre Hc1 Htake
     obtain ⟨x1, k1, n1, s1, l1, f1⟩ := dj
     obtain ⟨vl1, vf1, rfl, hx8, hx9⟩ := reads_dm.1 hre
     obtain ⟨al1, cl1, rfl, _, _, _⟩ := reads_data hx8
     obtain ⟨af1, cf1, rfl, _, _, _⟩ := reads_data hx9
     clear hx8 hx9
     have ef : ∀ t c, [Value.bool x1, .int .i64 k1, .int .i64 n1, .string s1, (.slice al1 l1.length cl1), (.slice af1 f1.length cf1)][t]? = some c → wr.cell? ⟨b', off + j * 6 + t, none⟩ = some c := fun t c ht => (hc.cell (p := ⟨b', off + j * 6 + t, none⟩) hbw (fun e => e)).trans (hcells t c ht)
     have e0 : wr.cell? ⟨b', off + j * 6, none⟩ = some (.bool x1) := ef 0 _ rfl
     have e1 : wr.cell? ⟨b', off + j * 6 + 1, none⟩ = some (.int .i64 k1) := ef 1 _ rfl
     have e2 : wr.cell? ⟨b', off + j * 6 + 2, none⟩ = some (.int .i64 n1) := ef 2 _ rfl
     have e3 : wr.cell? ⟨b', off + j * 6 + 3, none⟩ = some (.string s1) := ef 3 _ rfl
     have e4 : wr.cell? ⟨b', off + j * 6 + 4, none⟩ = some (.slice al1 l1.length cl1) := ef 4 _ rfl
     have e5 : wr.cell? ⟨b', off + j * 6 + 5, none⟩ = some (.slice af1 f1.length cf1) := ef 5 _ rfl
     clear ef
     have g4 : wr.cell? ⟨w.heap.size + 4, 4, none⟩ = some v0 := hb4.cell 4
     go_wp2_with fail
     obtain ⟨wz, hwz⟩ : ∃ x, x = wr := ⟨_, rfl⟩
     subst hwz
     have hcz := hc
     have hszz := Nat.le_refl wz.heap.size
     refine wp_region_n (fun w' => w'.cell? ⟨w.heap.size, 0, none⟩ = some (.int .i64 i) ∧ w'.cell? ⟨w.heap.size, 1, none⟩ = some (.string nm) ∧ w'.cell? ⟨w.heap.size, 2, none⟩ = some (.int .i64 3) ∧ w'.cell? ⟨w.heap.size, 3, none⟩ = some (.int .i64 kd) ∧ w'.cell? ⟨w.heap.size, 4, none⟩ = some (.slice aa sa.length ac) ∧ w'.cell? ⟨w.heap.size + 1, 0, none⟩ = some (.int .i64 i') ∧ w'.cell? ⟨w.heap.size + 1, 1, none⟩ = some (.string nm') ∧ w'.cell? ⟨w.heap.size + 1, 2, none⟩ = some (.int .i64 rp') ∧ w'.cell? ⟨w.heap.size + 1, 3, none⟩ = some (.int .i64 kd') ∧ w'.cell? ⟨w.heap.size + 1, 4, none⟩ = some (.slice ba sb.length bc) ∧ w'.cell? ⟨b', off + j * 6, none⟩ = some (.bool x1) ∧ w'.cell? ⟨b', off + j * 6 + 1, none⟩ = some (.int .i64 k1) ∧ w'.cell? ⟨b', off + j * 6 + 2, none⟩ = some (.int .i64 n1) ∧ w'.cell? ⟨b', off + j * 6 + 3, none⟩ = some (.string s1) ∧ w'.cell? ⟨b', off + j * 6 + 4, none⟩ = some (.slice al1 l1.length cl1) ∧ w'.cell? ⟨b', off + j * 6 + 5, none⟩ = some (.slice af1 f1.length cf1) ∧ w'.cell? ⟨w.heap.size + 4, 4, none⟩ = some v0 ∧ w'.cell? ⟨w.heap.size + 2, 4, none⟩ = some (.slice (some ⟨b', off, none⟩) l.length cl)) [13] (by kernel_rfl) ?_ (fun hSh => ?_)
     ·exact ⟨p0, p1, p2, p3, p4, q0, q1, q2, q3, q4, e0, e1, e2, e3, e4, e5, g4, d4⟩
     refine n_take (v := ?_) 0 rfl (Or.inl ⟨by rfl, ?_⟩) (by kernel_rfl) (fun _ _ _ h => h) (by assumption) ?_
     rotate_left 1
     ·(intro w' hSw; (try dsimp only at hSw); go_simp; try with_reducible rfl)
     simp only [Act.put, List.getElem_toArray, List.getElem_cons_zero, List.getElem_cons_succ, List.setIfInBounds_toArray, List.set_cons_zero, List.set_cons_succ]
     refine n_take (v := ?_) 1 rfl (Or.inl ⟨by rfl, ?_⟩) (by kernel_rfl) (fun _ _ _ h => h) (by assumption) ?_
     rotate_left 1
     ·(intro w' hSw; (try dsimp only at hSw); go_simp; try with_reducible rfl)
     simp only [Act.put, List.getElem_toArray, List.getElem_cons_zero, List.getElem_cons_succ, List.setIfInBounds_toArray, List.set_cons_zero, List.set_cons_succ]
     refine n_take (v := ?_) 2 rfl (Or.inl ⟨by rfl, ?_⟩) (by kernel_rfl) (fun _ _ _ h => h) (by assumption) ?_
     rotate_left 1
     ·(intro w' hSw; (try dsimp only at hSw); go_simp; try with_reducible rfl)
     simp only [Act.put, List.getElem_toArray, List.getElem_cons_zero, List.getElem_cons_succ, List.setIfInBounds_toArray, List.set_cons_zero, List.set_cons_succ]
     refine n_take (v := ?_) 3 rfl (Or.inl ⟨by rfl, ?_⟩) (by kernel_rfl) (fun _ _ _ h => h) (by assumption) ?_
     rotate_left 1
     ·(intro w' hSw; (try dsimp only at hSw); go_simp; try with_reducible rfl)
     simp only [Act.put, List.getElem_toArray, List.getElem_cons_zero, List.getElem_cons_succ, List.setIfInBounds_toArray, List.set_cons_zero, List.set_cons_succ]
     refine n_take (v := ?_) 4 rfl (Or.inl ⟨by rfl, ?_⟩) (by kernel_rfl) (fun _ _ _ h => h) (by assumption) ?_
     rotate_left 1
     ·(intro w' hSw; (try dsimp only at hSw); go_simp; try with_reducible rfl)
     simp only [Act.put, List.getElem_toArray, List.getElem_cons_zero, List.getElem_cons_succ, List.setIfInBounds_toArray, List.set_cons_zero, List.set_cons_succ]
     refine n_take (v := ?_) 5 rfl (Or.inl ⟨by rfl, ?_⟩) (by kernel_rfl) (fun _ _ _ h => h) (by assumption) ?_
     rotate_left 1
     ·(intro w' hSw; (try dsimp only at hSw); go_simp; try with_reducible rfl)
     simp only [Act.put, List.getElem_toArray, List.getElem_cons_zero, List.getElem_cons_succ, List.setIfInBounds_toArray, List.set_cons_zero, List.set_cons_succ]
     refine n_take (v := ?_) 6 rfl (Or.inl ⟨by rfl, ?_⟩) (by kernel_rfl) (fun _ _ _ h => h) (by assumption) ?_
     rotate_left 1
     ·(intro w' hSw; (try dsimp only at hSw); go_simp; try with_reducible rfl)
     simp only [Act.put, List.getElem_toArray, List.getElem_cons_zero, List.getElem_cons_succ, List.setIfInBounds_toArray, List.set_cons_zero, List.set_cons_succ]
     refine n_take (v := ?_) 7 rfl (Or.inl ⟨by rfl, ?_⟩) (by kernel_rfl) (fun _ _ _ h => h) (by assumption) ?_
     rotate_left 1
     ·(intro w' hSw; (try dsimp only at hSw); go_simp; try with_reducible rfl)
     simp only [Act.put, List.getElem_toArray, List.getElem_cons_zero, List.getElem_cons_succ, List.setIfInBounds_toArray, List.set_cons_zero, List.set_cons_succ]
     refine n_take (v := ?_) 8 rfl (Or.inl ⟨by rfl, ?_⟩) (by kernel_rfl) (fun _ _ _ h => h) (by assumption) ?_
     rotate_left 1
     ·(intro w' hSw; (try dsimp only at hSw); go_simp; try with_reducible rfl)
     simp only [Act.put, List.getElem_toArray, List.getElem_cons_zero, List.getElem_cons_succ, List.setIfInBounds_toArray, List.set_cons_zero, List.set_cons_succ]
     refine n_step 9 rfl (by kernel_rfl) ?_
     go_wp2_with fail
     refine (Hc1.out wz.drew Sa Sb Sd _ _ _ (Hra.out.chg0 hcz.drew) (Hrb.out.chg0 hcz.drew) (hre.chg0 hcz.drew)).mono ?_
     rintro en wA ⟨ecs, rfl, hrA, hcA⟩
     replace hcA := hcA.ofDrew
     generalize hX : moveF (.mk x1 k1 n1 s1 l1 f1) (.mk i nm 3 kd sa) (.mk i' nm' rp' kd' sb) true = dx at hrA
     have HX := Lib.hid hX
     clear hX
     obtain ⟨b9, k9, m9, s9, l9, f9⟩ := dx
     obtain ⟨vl9, vf9, rfl, hs8, hs9⟩ := reads_dm.1 hrA
     obtain ⟨a8, c8, rfl, _, _, _⟩ := reads_data hs8
     obtain ⟨a9, c9, rfl, _, _, _⟩ := reads_data hs9
     clear hs8 hs9
     go_wp2_with fail
     refine ⟨fun _ => ?_, fun hSk => ?_⟩
     ·(repeat' refine And.intro ?_ ?_) <;> exact (hcA.cell (lt_of_cell (by assumption)) NoB.elim).trans (by assumption)
     replace hSk := hSk (by rfl)
     refine n_step 10 rfl (by kernel_rfl) ?_
     go_wp2_with fail
     generalize hwB : World.alloc wA _ = wB
     have hcB : Chg NoB wA wB := by
      rw [← hwB]
      repeat (first | exact Chg.refl _ _ | apply Chg.alloc | apply Chg.drew)
     have hbn : Blk wB (wA.heap.size) ([.bool b9, .int .i64 k9, .int .i64 m9, .string s9, .slice a8 l9.length c8, .slice a9 f9.length c9]) 43 := by
      rw [← hwB]
      repeat (first | exact Blk.newAt (by first | rfl | (simp; done) | (simp; omega)) | apply Blk.alloc | apply Blk.drew)
     clear hwB
     have hczB := hcA.tr hcB
     have hrB := hrA.chg0 hcB
     have hoB := ho.keep hczB (fun _ _ e => NoB.elim e) (fun _ _ e => NoB.elim e)
     refine ⟨fun _ => ?_, fun hSk => ?_⟩
     ·(repeat' refine And.intro ?_ ?_) <;> exact (hczB.cell (lt_of_cell (by assumption)) NoB.elim).trans (by assumption)
     replace hSk := hSk (by rfl)
     refine n_step 11 rfl (by kernel_rfl) ?_
     have hlA : (Dm.dts ((l.take j).map fun x => moveF x (.mk i nm 3 kd sa) (.mk i' nm' rp' kd' sb) true)).length = j := by rw [Dm.dts_eq, List.length_map, List.length_map, List.length_take]; omega
     refine wpList_own rfl (.tmp 35) (.tmp 44) 41 rfl (w.heap.size + 5) 43 Tryz.underlying41 infoDatum rfl (by decide) rfl hoB rfl [Dm.dt (.mk b9 k9 m9 s9 l9 f9)] _ rfl (ReadsC.single rfl (hrB.mono ?_)) hbn.news (fun e => by cases e) ?_ ?_ ?_ ?_
     ·intro b hb
      have hb : wz.heap.size ≤ b := hb
      exact ⟨by omega, hfarAll b (.inr (by omega))⟩
     ·rw [hlA]; unfold maxLen; omega
     ·rw [hlA]; omega
     ·have := hczB.size; omega
     intro ao5 cap5 wC hoC hcC hatC
     rw [hlA] at hoC ⊢
     have hcC0 : Chg NoB w wC := (hcz.tr hczB).trans hcC (fun b e => .inr (by have := (hobr b e).1; omega))
     have hbC0 := (hb0.keep hczB NoB.elim).keep hcC (hfarAll _ (.inl (by omega)))
     have hbC1 := (hb1.keep hczB NoB.elim).keep hcC (hfarAll _ (.inl (by omega)))
     have hbC2 := (hb2.keep hczB NoB.elim).keep hcC (hfarAll _ (.inl (by omega)))
     have hbC3 := (hb3.keep hczB NoB.elim).keep hcC (hfarAll _ (.inl (by omega)))
     have hbC4 := (hb4.keep hczB NoB.elim).keep hcC (hfarAll _ (.inl (by omega)))
     have hczC : Chg (fun b => v0.ownBlock = some b) wz wC := (hczB.mono (fun _ _ e => NoB.elim e)).trans hcC (fun _ e => .inl e)
     go_wp2_with fail
     refine ⟨fun _ => ?_, fun hSk => ?_⟩
     ·(repeat' refine And.intro ?_ ?_) <;> exact (hczC.cell (lt_of_cell (by assumption)) (hfarAll _ (by dsimp only; omega))).trans (by assumption)
     replace hSk := hSk (by rfl)
     refine n_take (v := ?_) 12 rfl (Or.inl ⟨by rfl, ?_⟩) (by kernel_rfl) (fun _ _ _ h => h) (by assumption) ?_
     rotate_left 1
     ·(intro w' hSw; (try dsimp only at hSw); go_simp; try with_reducible rfl)
     simp only [Act.put, List.getElem_toArray, List.getElem_cons_zero, List.getElem_cons_succ, List.setIfInBounds_toArray, List.set_cons_zero, List.set_cons_succ]
     refine n_step 13 rfl (by kernel_rfl) ?_
     have o5 : wC.cell? ⟨w.heap.size + 4, 4, none⟩ = some v0 := hbC4.cell 4
     have f5 : wC.frozen? ⟨w.heap.size + 4, 4, none⟩ = false := hbC4.free 4
     go_wp2_with fail
     refine ⟨fun hx => absurd hx (by decide), fun _ => ?_⟩
     refine n_done (by kernel_rfl) ?_
     go_wp2_with fail
     go_roundw
     case rel =>
      refine ⟨j + 1, _, hlt, by go_num, hcC0.setCell (.inr (by dsimp only; omega)) _, hbC0.other (by dsimp only; omega) _, hbC1.other (by dsimp only; omega) _, hbC2.other (by dsimp only; omega) _, hbC3.other (by dsimp only; omega) _, hbC4.set 4 _, ?_⟩
      show Own _ _ _ _ _ _ (Dm.dts ((l.take (j + 1)).map fun x => moveF x (.mk i nm 3 kd sa) (.mk i' nm' rp' kd' sb) true))
      rw [Htake.out, Dm.dts_append, HX.out]
      exact hoC.setCell (fun b hb => by have hb : w.heap.size + 5 ≤ b := hb; dsimp only; omega) (by dsimp only; omega) _
     case measure => simp [intOf]; omega
    ·have hjl : j = l.length := by omega
     subst hjl
     have hltI : ¬ ((l.length : Int) < (l.length : Int)) := by omega
     rw [List.take_length] at ho
     have hlm : (Dm.dts (l.map fun x => moveF x (.mk i nm 3 kd sa) (.mk i' nm' rp' kd' sb) true)).length = l.length := by rw [Dm.dts_eq, List.length_map, List.length_map]
     obtain ⟨ao, cap', hv⟩ := ho.form
     rw [hlm] at hv
     subst hv
     have c0 : wr.cell? ⟨w.heap.size + 4, 0, none⟩ = some (.bool false) := hb4.cell 0
     have c1 : wr.cell? ⟨w.heap.size + 4, 1, none⟩ = some (.int .i64 (0)) := hb4.cell 1
     have c2 : wr.cell? ⟨w.heap.size + 4, 2, none⟩ = some (.int .i64 (0)) := hb4.cell 2
     have c3 : wr.cell? ⟨w.heap.size + 4, 3, none⟩ = some (.string ⟨#[]⟩) := hb4.cell 3
     have c4 : wr.cell? ⟨w.heap.size + 4, 4, none⟩ = some (.slice ao l.length cap') := hb4.cell 4
     have c5 : wr.cell? ⟨w.heap.size + 4, 5, none⟩ = some (.slice none 0 0) := hb4.cell 5
     have d0 : wr.cell? ⟨w.heap.size + 3, 0, none⟩ = some (.bool false) := hb3.cell 0
     have d1 : wr.cell? ⟨w.heap.size + 3, 1, none⟩ = some (.int .i64 (0)) := hb3.cell 1
     have d2 : wr.cell? ⟨w.heap.size + 3, 2, none⟩ = some (.int .i64 (0)) := hb3.cell 2
     have d3 : wr.cell? ⟨w.heap.size + 3, 3, none⟩ = some (.string ⟨#[]⟩) := hb3.cell 3
     have d4 : wr.cell? ⟨w.heap.size + 3, 4, none⟩ = some (.slice none 0 0) := hb3.cell 4
     have d5 : wr.cell? ⟨w.heap.size + 3, 5, none⟩ = some (.slice none 0 0) := hb3.cell 5
     have f0 : wr.frozen? ⟨w.heap.size + 3, 0, none⟩ = false := hb3.free 0
     have f1 : wr.frozen? ⟨w.heap.size + 3, 1, none⟩ = false := hb3.free 1
     have f2 : wr.frozen? ⟨w.heap.size + 3, 2, none⟩ = false := hb3.free 2
     have f3 : wr.frozen? ⟨w.heap.size + 3, 3, none⟩ = false := hb3.free 3
     have f4 : wr.frozen? ⟨w.heap.size + 3, 4, none⟩ = false := hb3.free 4
     have f5 : wr.frozen? ⟨w.heap.size + 3, 5, none⟩ = false := hb3.free 5
     go_wp2_with fail
     have hbE := store6 hb3 (.bool false) (.int .i64 (0)) (.int .i64 (0)) (.string ⟨#[]⟩) (.slice ao l.length cap') (.slice none 0 0)
     have hsE := store6_chg wr (w.heap.size + 3) (.bool false) (.int .i64 (0)) (.int .i64 (0)) (.string ⟨#[]⟩) (.slice ao l.length cap') (.slice none 0 0)
     have hcE := hc.trans hsE (fun i e => .inr (by have e : i = w.heap.size + 3 := e; omega))
     generalize World.setCell (World.setCell (World.setCell (World.setCell (World.setCell (World.setCell wr ⟨w.heap.size + 3, 0, none⟩ (.bool false)) ⟨w.heap.size + 3, 1, none⟩ (.int .i64 (0))) ⟨w.heap.size + 3, 2, none⟩ (.int .i64 (0))) ⟨w.heap.size + 3, 3, none⟩ (.string ⟨#[]⟩)) ⟨w.heap.size + 3, 4, none⟩ (.slice ao l.length cap')) ⟨w.heap.size + 3, 5, none⟩ (.slice none 0 0) = wE at hbE hsE hcE ⊢
     have n0 : wE.cell? ⟨w.heap.size + 3, 0, none⟩ = some (.bool false) := hbE.cell 0
     have n1 : wE.cell? ⟨w.heap.size + 3, 1, none⟩ = some (.int .i64 (0)) := hbE.cell 1
     have n2 : wE.cell? ⟨w.heap.size + 3, 2, none⟩ = some (.int .i64 (0)) := hbE.cell 2
     have n3 : wE.cell? ⟨w.heap.size + 3, 3, none⟩ = some (.string ⟨#[]⟩) := hbE.cell 3
     have n4 : wE.cell? ⟨w.heap.size + 3, 4, none⟩ = some (.slice ao l.length cap') := hbE.cell 4
     have n5 : wE.cell? ⟨w.heap.size + 3, 5, none⟩ = some (.slice none 0 0) := hbE.cell 5
     refine bodyPost_ret (v := .agg #[.bool false, .int .i64 (0), .int .i64 0, .string ⟨#[]⟩, .slice ao l.length cap', .slice none 0 0]) (by simp [results, Tryz.results28, go_sem, n0, n1, n2, n3, n4, n5]) rfl ?_
     refine ⟨_, rfl, reads_dm.2 ⟨_, _, rfl, ?_, nil_data _ _⟩, hcE⟩
     have hof := ho.keep hsE (fun b hb e => by have hb : w.heap.size + 5 ≤ b := hb; have e : b = w.heap.size + 3 := e; omega) (fun b hb e => by have := (ho.block b hb).1; have e : b = w.heap.size + 3 := e; omega)
     exact hof.reads (fun b hb => by have hb : w.heap.size + 5 ≤ b := hb; show w.heap.size ≤ b; omega) (fun b hb _ => by show w.heap.size ≤ b; omega) (by rw [hlm]; unfold maxLen; omega)
  by_cases hk : a.kind = 0
  case neg =>
   clear ih hm hright
   obtain ⟨i, nm, rp, kd, sa⟩ := a
   obtain ⟨i', nm', rp', kd', sb⟩ := b
   have hkd : ¬ kd = 0 := hk
   have hkb : (kd == 0) = false := by simpa using hkd
   have hL : ¬ (rp = 3 ∧ one = false) := hL
   by_cases h3 : rp = 3
   ·subst h3
    have h1 : one = true := by cases one with | true => rfl | false => exact absurd ⟨rfl, rfl⟩ hL
    subst h1
    obtain ⟨va, rfl, hsa⟩ := reads_nd.1 hra
    obtain ⟨vb, rfl, hsb⟩ := reads_nd.1 hrb
    obtain ⟨vl, vf, rfl, hsl, hsf⟩ := reads_dm.1 hrd
    obtain ⟨aa, ac, rfl, hal, hac, hea⟩ := reads_subs hsa
    obtain ⟨ba, bc, rfl, hbl, hbc, heb⟩ := reads_subs hsb
    obtain ⟨al, cl, rfl, hll, hlc, hel⟩ := reads_data hsl
    obtain ⟨af, cf, rfl, hfl, hfc, hef⟩ := reads_data hsf
    have Hsa := Lib.hid hsa
    clear hsa hsb hsl hsf hra hrb hrd
    unfold maxLen at hac hbc hlc hfc
    rw [show moveF (.mk false k v s l f) (.mk i nm 3 kd sa) (.mk i' nm' rp' kd' sb) true = .mk false kd' v s [] [] from by simp [moveF, Nd.rep, Nd.kind, hkd]]
    go_enter Tryz.func28, Tryz.ntmps28
    go_wp2_with fail
    generalize hw1 : World.alloc _ _ = w1
    have hc1 : Chg NoB w w1 := by
     rw [← hw1]
     repeat (first | exact Chg.refl _ _ | apply Chg.alloc | apply Chg.drew)
    have hbE : Blk w1 (w.heap.size + 3) (dmCells false kd' v s (.slice none 0 0) (.slice none 0 0)) 43 := by
     rw [← hw1]
     repeat (first | exact Blk.newAt (by first | rfl | (simp; done) | (simp; omega)) | apply Blk.alloc | apply Blk.drew)
    clear hw1
    have n0 : w1.cell? ⟨w.heap.size + 3, 0, none⟩ = some (.bool false) := hbE.cell 0
    have n1 : w1.cell? ⟨w.heap.size + 3, 1, none⟩ = some (.int .i64 (kd')) := hbE.cell 1
    have n2 : w1.cell? ⟨w.heap.size + 3, 2, none⟩ = some (.int .i64 (v)) := hbE.cell 2
    have n3 : w1.cell? ⟨w.heap.size + 3, 3, none⟩ = some (.string s) := hbE.cell 3
    have n4 : w1.cell? ⟨w.heap.size + 3, 4, none⟩ = some (.slice none 0 0) := hbE.cell 4
    have n5 : w1.cell? ⟨w.heap.size + 3, 5, none⟩ = some (.slice none 0 0) := hbE.cell 5
    refine bodyPost_ret (v := .agg #[.bool false, .int .i64 (kd'), .int .i64 (v), .string s, .slice none 0 0, .slice none 0 0]) (by simp [results, Tryz.results28, go_sem, n0, n1, n2, n3, n4, n5]) rfl ?_
    exact ⟨_, rfl, reads_dm.2 ⟨_, _, rfl, nil_data _ _, nil_data _ _⟩, hc1⟩
   ·have h3b : (rp == 3) = false := by simpa using h3
    obtain ⟨va, rfl, hsa⟩ := reads_nd.1 hra
    obtain ⟨vb, rfl, hsb⟩ := reads_nd.1 hrb
    obtain ⟨vl, vf, rfl, hsl, hsf⟩ := reads_dm.1 hrd
    obtain ⟨aa, ac, rfl, hal, hac, hea⟩ := reads_subs hsa
    obtain ⟨ba, bc, rfl, hbl, hbc, heb⟩ := reads_subs hsb
    obtain ⟨al, cl, rfl, hll, hlc, hel⟩ := reads_data hsl
    obtain ⟨af, cf, rfl, hfl, hfc, hef⟩ := reads_data hsf
    have Hsa := Lib.hid hsa
    clear hsa hsb hsl hsf hra hrb hrd
    unfold maxLen at hac hbc hlc hfc
    rw [show moveF (.mk false k v s l f) (.mk i nm rp kd sa) (.mk i' nm' rp' kd' sb) one = .mk false kd' v s [] [] from by simp [moveF, Nd.rep, Nd.kind, hkd, h3]]
    go_enter Tryz.func28, Tryz.ntmps28
    go_wp2_with fail
    generalize hw1 : World.alloc _ _ = w1
    have hc1 : Chg NoB w w1 := by
     rw [← hw1]
     repeat (first | exact Chg.refl _ _ | apply Chg.alloc | apply Chg.drew)
    have hbE : Blk w1 (w.heap.size + 3) (dmCells false kd' v s (.slice none 0 0) (.slice none 0 0)) 43 := by
     rw [← hw1]
     repeat (first | exact Blk.newAt (by first | rfl | (simp; done) | (simp; omega)) | apply Blk.alloc | apply Blk.drew)
    clear hw1
    have n0 : w1.cell? ⟨w.heap.size + 3, 0, none⟩ = some (.bool false) := hbE.cell 0
    have n1 : w1.cell? ⟨w.heap.size + 3, 1, none⟩ = some (.int .i64 (kd')) := hbE.cell 1
    have n2 : w1.cell? ⟨w.heap.size + 3, 2, none⟩ = some (.int .i64 (v)) := hbE.cell 2
    have n3 : w1.cell? ⟨w.heap.size + 3, 3, none⟩ = some (.string s) := hbE.cell 3
    have n4 : w1.cell? ⟨w.heap.size + 3, 4, none⟩ = some (.slice none 0 0) := hbE.cell 4
    have n5 : w1.cell? ⟨w.heap.size + 3, 5, none⟩ = some (.slice none 0 0) := hbE.cell 5
    refine bodyPost_ret (v := .agg #[.bool false, .int .i64 (kd'), .int .i64 (v), .string s, .slice none 0 0, .slice none 0 0]) (by simp [results, Tryz.results28, go_sem, n0, n1, n2, n3, n4, n5]) rfl ?_
    exact ⟨_, rfl, reads_dm.2 ⟨_, _, rfl, nil_data _ _, nil_data _ _⟩, hc1⟩
  obtain ⟨hlen, hrp⟩ := right_group hright rfl hfa.rep hL hk
  have hrp' := (rightP_none hlen).1 hrp
  have HI := Lib.hid (show ∀ c ∈ b.sub, ∀ (i : Nat) (x : Dm) (y : Nd), f[i]? = some x → a.sub[i]? = some y → ∀ (w : World) (Sa Sb Sd : Nat → Prop) (ca cb cd : List Value), Reads w Sa y.dt ca → Reads w Sb c.dt cb → Reads w Sd x.dt cd → Calls Tryz.prog 28 #[.agg ca.toArray, .agg cb.toArray, .agg cd.toArray, .bool false] w (RetNew (moveF x y c false).dt w) from
   fun c hc i x y hx hy w Sa Sb Sd ca cb cd h1 h2 h3 => ih x y c false w Sa Sb Sd ca cb cd (by have := Dm.weigh_mem (List.mem_of_getElem? hx); omega) h1 h2 h3 (hfa.sub (List.mem_of_getElem? hy)) (hfb.sub hc) (hrp' i x y hx hy))
  have HF := Lib.hid (show ∀ c ∈ b.sub, FitN c from fun c hc => hfb.sub hc)
  have hb39 := hfb.len
  have Hnod := Lib.hid hfa.apart
  clear ih hm hright hrp hrp' hfa hfb
  obtain ⟨i, nm, rp, kd, sa⟩ := a
  obtain ⟨i', nm', rp', kd', sb⟩ := b
  have hk : kd = 0 := hk
  subst hk
  simp only [Nd.sub] at HI HF hlen hb39 Hnod
  have Hflen := Lib.hid hlen
  clear hlen
  have hrep : ¬ (rp = 3 ∧ one = false) := hL
  clear hL
  obtain ⟨va, rfl, hsa⟩ := reads_nd.1 hra
  obtain ⟨vb, rfl, hsb⟩ := reads_nd.1 hrb
  obtain ⟨vl, vf, rfl, hsl, hsf⟩ := reads_dm.1 hrd
  obtain ⟨aa, ac, rfl, hal, hac, hea⟩ := reads_subs hsa
  obtain ⟨ba, bc, rfl, hbl, hbc, heb⟩ := reads_subs hsb
  obtain ⟨al, cl, rfl, hll, hlc, hel⟩ := reads_data hsl
  obtain ⟨af, cf, rfl, hfl, hfc, hef⟩ := reads_data hsf
  have Hsa := Lib.hid hsa
  clear hsa hsb hsl hsf hra hrb hrd
  unfold maxLen at hac hbc hlc hfc
  rw [show moveF (.mk false k v s l f) (.mk i nm rp 0 sa) (.mk i' nm' rp' kd' sb) one = .mk false 0 0 ⟨#[]⟩ [] (sb.map (pickF (movers f sa))) from by simp [moveF, Nd.rep, Nd.kind, Nd.sub, hrep]]
  go_enter Tryz.func28, Tryz.ntmps28
  go_upto_region 4 with fail
  go_cut [26] (fun vt wx => vt = .bool false ∧ wx = ((((w.alloc (.cells #[.int .i64 i, .string nm, .int .i64 rp, .int .i64 0, .slice aa sa.length ac] 28)).alloc (.cells #[.int .i64 i', .string nm', .int .i64 rp', .int .i64 kd', .slice ba sb.length bc] 28)).alloc (.cells #[.bool false, .int .i64 k, .int .i64 v, .string s, .slice al l.length cl, .slice af f.length cf] 43)).alloc (.cells #[.bool false, .int .i64 0, .int .i64 0, .string ⟨#[]⟩, .slice none 0 0, .slice none 0 0] 43)).alloc (.cells #[.bool false, .int .i64 0, .int .i64 0, .string ⟨#[]⟩, .slice none 0 0, .slice none 0 0] 43))
  case first =>
   by_cases h3 : rp = 3
   ·have h1 : one = true := by cases one with | true => rfl | false => exact absurd ⟨h3, rfl⟩ hrep
    subst h1
    have h3b : (rp == 3) = true := by simpa using h3
    clear h3 hrep
    go_wp2_with fail
    go_meet
    exact ⟨rfl, rfl⟩
   ·have h3b : (rp == 3) = false := by simpa using h3
    clear h3 hrep
    go_wp2_with fail
    go_meet
    exact ⟨rfl, rfl⟩
  case rest =>
  obtain ⟨rfl, hwc⟩ := hcut
  rw [hwc]
  clear hwc
  go_wp2_with fail
  go_loopw [11] (fun vi wr => MvRel w (ndCells i nm rp 0 (.slice aa sa.length ac)) (ndCells i' nm' rp' kd' (.slice ba sb.length bc)) (dmCells false k v s (.slice al l.length cl) (.slice af f.length cf)) (fun v => dmCells false 0 0 ⟨#[]⟩ (.slice none 0 0) v) (fun j => (sb.take j).map (pickF (movers f sa))) sb.length vi wr) (fun vi _ => sb.length - (intOf vi).toNat)
  case atStart =>
   refine ⟨0, _, Nat.zero_le _, rfl, ?_, ?_, ?_, ?_, ?_, ?_, by simpa [Dm.dts] using Own.nil _ _ _ _ _⟩
   ·repeat (first | exact Chg.refl _ _ | apply Chg.alloc)
   ·repeat (first | exact Blk.newAt (by first | rfl | (simp; done) | (simp; omega)) | apply Blk.alloc)
   ·repeat (first | exact Blk.newAt (by first | rfl | (simp; done) | (simp; omega)) | apply Blk.alloc)
   ·repeat (first | exact Blk.newAt (by first | rfl | (simp; done) | (simp; omega)) | apply Blk.alloc)
   ·repeat (first | exact Blk.newAt (by first | rfl | (simp; done) | (simp; omega)) | apply Blk.alloc)
   ·repeat (first | exact Blk.newAt (by first | rfl | (simp; done) | (simp; omega)) | apply Blk.alloc)
  case round =>
   obtain ⟨j, v0, hj, rfl, hc, hb0, hb1, hb2, hb3, hb4, ho⟩ := hrel
   dsimp only at hb4 ho
   have hsz : w.heap.size + 5 ≤ wr.heap.size := hb4.lt
   have hobr := ho.block
   have hfarAll : ∀ x, (x < w.heap.size + 5 ∨ wr.heap.size ≤ x) → ¬ (v0.ownBlock = some x) := fun x hx e => by
    have h1 := (hobr _ e).1
    have h2 := (hobr _ e).2
    omega
   obtain ⟨wo, hwo⟩ : ∃ x, x = wr := ⟨_, rfl⟩
   subst hwo
   have q4 : wo.cell? ⟨w.heap.size + 1, 4, none⟩ = some (.slice ba sb.length bc) := hb1.cell 4
   by_cases hlt : j < sb.length
   ·have hltI : (j : Int) < (sb.length : Int) := by omega
    obtain ⟨b', off, rfl, hSb, hbw, hE⟩ := heb (by omega)
    obtain ⟨ecs, hl5, hcells, hre⟩ := hE.get j sb[j].dt (by simp [hlt])
    have hmem := List.getElem_mem hlt
    have Hc1 := Lib.hid (HI.out _ hmem)
    have Hfit := Lib.hid (HF.out _ hmem)
    have Htake := Lib.hid (show (sb.take (j + 1)).map (pickF (movers f sa)) = (sb.take j).map (pickF (movers f sa)) ++ [pickF (movers f sa) sb[j]] by rw [List.take_succ_eq_append_getElem hlt, List.map_append]; rfl)
    clear hmem
    generalize sb[j] = nj at hre Hc1 Hfit Htake
    obtain ⟨i1, n1, r1, k1, s1⟩ := nj
    obtain ⟨v1, rfl, hs1⟩ := reads_nd.1 hre
    obtain ⟨sa1, cap1, rfl, _, _, _⟩ := reads_subs hs1
    clear hs1
    have ef : ∀ t c, [Value.int .i64 i1, .string n1, .int .i64 r1, .int .i64 k1, (.slice sa1 s1.length cap1)][t]? = some c → wo.cell? ⟨b', off + j * 5 + t, none⟩ = some c := fun t c ht => (hc.cell (p := ⟨b', off + j * 5 + t, none⟩) hbw (fun e => e)).trans (hcells t c ht)
    have e0 : wo.cell? ⟨b', off + j * 5, none⟩ = some (.int .i64 i1) := ef 0 _ rfl
    have e1 : wo.cell? ⟨b', off + j * 5 + 1, none⟩ = some (.string n1) := ef 1 _ rfl
    have e2 : wo.cell? ⟨b', off + j * 5 + 2, none⟩ = some (.int .i64 r1) := ef 2 _ rfl
    have e3 : wo.cell? ⟨b', off + j * 5 + 3, none⟩ = some (.int .i64 k1) := ef 3 _ rfl
    have e4 : wo.cell? ⟨b', off + j * 5 + 4, none⟩ = some (.slice sa1 s1.length cap1) := ef 4 _ rfl
    clear ef
    go_wp2_with fail
    refine (freshOf_any _ (.mk i1 n1 r1 k1 s1) wo Sb _ (Nat.le_refl _) (hre.chg0 hc) Hfit.out.fresh).mono ?_
    rintro en wA ⟨fcs, rfl, hrA, hcA⟩
    generalize hX : freshF (.mk i1 n1 r1 k1 s1) = dx at hrA
    have HX := Lib.hid hX
    clear hX
    obtain ⟨b9, k9, m9, s9, l9, f9⟩ := dx
    obtain ⟨vl9, vf9, rfl, hs8, hs9⟩ := reads_dm.1 hrA
    obtain ⟨a8, c8, rfl, _, _, _⟩ := reads_data hs8
    obtain ⟨a9, c9, rfl, _, _, _⟩ := reads_data hs9
    clear hs8 hs9
    go_wp2_with fail
    generalize hwx : World.alloc wA _ = wx
    have hcx : Chg NoB wA wx := by
     rw [← hwx]
     repeat (first | exact Chg.refl _ _ | apply Chg.alloc | apply Chg.drew)
    have hbx : Blk wx (wA.heap.size) (dmCells b9 k9 m9 s9 (.slice a8 l9.length c8) (.slice a9 f9.length c9)) 43 := by
     rw [← hwx]
     repeat (first | exact Blk.newAt (by first | rfl | (simp; done) | (simp; omega)) | apply Blk.alloc | apply Blk.drew)
    clear hwx e0 e1 e2 e3 e4 q4
    have hox := hcA.tr hcx
    have hxlo : wo.heap.size ≤ wA.heap.size := hcA.size
    have hrA2 := hrA.lt.chg0 hcx
    generalize wA.heap.size = xb at hbx hxlo hrA2 ⊢
    have hrX : Reads wx (fun b => wo.heap.size ≤ b ∧ b ≠ xb) (Dm.mk b9 k9 m9 s9 l9 f9).dt (dmCells b9 k9 m9 s9 (.slice a8 l9.length c8) (.slice a9 f9.length c9)) := hrA2.mono (fun b hb => ⟨hb.1, by have := hb.2; omega⟩)
    clear hrA2
    have hxlt := hbx.lt
    go_loopw [13] (fun vi wr => InRel wo.heap.size xb wx (movers f sa) (.mk i1 n1 r1 k1 s1) sa.length vi wr) (fun vi _ => sa.length - (intOf vi).toNat)
    case atStart => exact ⟨0, b9, k9, m9, s9, l9, f9, _, _, Nat.zero_le _, rfl, Chg.refl _ _, (by rw [List.take_zero]; exact (pick_none (by simp)).trans HX.out), hbx, hrX⟩
    case round =>
     obtain ⟨ii, z9, zk, zn, zs, zl, zf, vl, vf, hii, rfl, hci, hpick, hbx2, hrx⟩ := hrel
     have Hpick := Lib.hid hpick
     clear hpick hbx hrX
     obtain ⟨vl', vf', hve, hzl, hzf⟩ := reads_dm.1 hrx
     simp only [dmCells, List.cons.injEq, true_and, and_true] at hve
     obtain ⟨rfl, rfl⟩ := hve
     obtain ⟨z8, y8, rfl, _, _, _⟩ := reads_data hzl
     obtain ⟨z7, y7, rfl, _, _, _⟩ := reads_data hzf
     clear hzl hzf
     have hszx := hox.size
     have hszr := hci.size
     have hxbr := hbx2.lt
     have hcx0 : Chg NoB w wr := (hc.tr hox).trans hci (fun b e => .inr (by have e : b = xb := e; omega))
     have hi0 := (hb0.keep hox NoB.elim).keep hci (fun e => by have e : w.heap.size = xb := e; omega)
     have hi1 := (hb1.keep hox NoB.elim).keep hci (fun e => by have e : w.heap.size + 1 = xb := e; omega)
     have hi2 := (hb2.keep hox NoB.elim).keep hci (fun e => by have e : w.heap.size + 2 = xb := e; omega)
     have hi3 := (hb3.keep hox NoB.elim).keep hci (fun e => by have e : w.heap.size + 3 = xb := e; omega)
     have hi4 := (hb4.keep hox NoB.elim).keep hci (fun e => by have e : w.heap.size + 4 = xb := e; omega)
     have p4 : wr.cell? ⟨w.heap.size, 4, none⟩ = some (.slice aa sa.length ac) := hi0.cell 4
     have q4 : wr.cell? ⟨w.heap.size + 1, 4, none⟩ = some (.slice (some ⟨b', off, none⟩) sb.length bc) := hi1.cell 4
     have d5 : wr.cell? ⟨w.heap.size + 2, 5, none⟩ = some (.slice af f.length cf) := hi2.cell 5
     by_cases hlt2 : ii < sa.length
     ·have hlt2I : (ii : Int) < (sa.length : Int) := by omega
      have hflen := Hflen.out
      have hltf : ii < f.length := by omega
      have hltfI : (ii : Int) < (f.length : Int) := by omega
      have hja : sa[ii]? = some sa[ii] := List.getElem?_eq_getElem hlt2
      have hd : f[ii]? = some f[ii] := List.getElem?_eq_getElem hltf
      have Hyes := Lib.hid (fun h => pick_yes (b := .mk i1 n1 r1 k1 s1) Hnod.out hd hja h)
      have Hno := Lib.hid (fun h => pick_no (b := .mk i1 n1 r1 k1 s1) (mover_at hd hja) h)
      have Hc2 := Lib.hid (Hc1.out ii _ _ hd hja)
      obtain ⟨b2, of2, rfl, hSb2, hbw2, hE2⟩ := hea (by omega)
      obtain ⟨gcs, hg5, hcells2, hrg⟩ := hE2.get ii sa[ii].dt (by rw [List.getElem?_map, hja]; rfl)
      obtain ⟨b3, of3, rfl, hSb3, hbw3, hE3⟩ := hef (by omega)
      obtain ⟨fcs, hf6, hcells3, hrf⟩ := hE3.get ii f[ii].dt (by rw [List.getElem?_map, hd]; rfl)
      clear hja hd hflen
      generalize f[ii] = dj at hrf Hyes Hno Hc2
      generalize sa[ii] = na at hrg Hyes Hno Hc2
      obtain ⟨x1, k2, n2, s2, l2, f2⟩ := dj
      obtain ⟨i3, n3, r3, k3, s3⟩ := na
      obtain ⟨vl1, vf1, rfl, hx8, hx9⟩ := reads_dm.1 hrf
      obtain ⟨al1, cl1, rfl, _, _, _⟩ := reads_data hx8
      obtain ⟨af1, cf1, rfl, _, _, _⟩ := reads_data hx9
      obtain ⟨vs3, rfl, hx7⟩ := reads_nd.1 hrg
      obtain ⟨as3, cs3, rfl, _, _, _⟩ := reads_subs hx7
      clear hx7 hx8 hx9
      have mf : ∀ t c, [Value.bool x1, .int .i64 k2, .int .i64 n2, .string s2, (.slice al1 l2.length cl1), (.slice af1 f2.length cf1)][t]? = some c → wr.cell? ⟨b3, of3 + ii * 6 + t, none⟩ = some c := fun t c ht => (hcx0.cell (p := ⟨b3, of3 + ii * 6 + t, none⟩) hbw3 (fun e => e)).trans (hcells3 t c ht)
      have m0 : wr.cell? ⟨b3, of3 + ii * 6, none⟩ = some (.bool x1) := mf 0 _ rfl
      have m1 : wr.cell? ⟨b3, of3 + ii * 6 + 1, none⟩ = some (.int .i64 k2) := mf 1 _ rfl
      have m2 : wr.cell? ⟨b3, of3 + ii * 6 + 2, none⟩ = some (.int .i64 n2) := mf 2 _ rfl
      have m3 : wr.cell? ⟨b3, of3 + ii * 6 + 3, none⟩ = some (.string s2) := mf 3 _ rfl
      have m4 : wr.cell? ⟨b3, of3 + ii * 6 + 4, none⟩ = some (.slice al1 l2.length cl1) := mf 4 _ rfl
      have m5 : wr.cell? ⟨b3, of3 + ii * 6 + 5, none⟩ = some (.slice af1 f2.length cf1) := mf 5 _ rfl
      clear mf
      have uf : ∀ t c, [Value.int .i64 i3, .string n3, .int .i64 r3, .int .i64 k3, (.slice as3 s3.length cs3)][t]? = some c → wr.cell? ⟨b2, of2 + ii * 5 + t, none⟩ = some c := fun t c ht => (hcx0.cell (p := ⟨b2, of2 + ii * 5 + t, none⟩) hbw2 (fun e => e)).trans (hcells2 t c ht)
      have u0 : wr.cell? ⟨b2, of2 + ii * 5, none⟩ = some (.int .i64 i3) := uf 0 _ rfl
      have u1 : wr.cell? ⟨b2, of2 + ii * 5 + 1, none⟩ = some (.string n3) := uf 1 _ rfl
      have u2 : wr.cell? ⟨b2, of2 + ii * 5 + 2, none⟩ = some (.int .i64 r3) := uf 2 _ rfl
      have u3 : wr.cell? ⟨b2, of2 + ii * 5 + 3, none⟩ = some (.int .i64 k3) := uf 3 _ rfl
      have u4 : wr.cell? ⟨b2, of2 + ii * 5 + 4, none⟩ = some (.slice as3 s3.length cs3) := uf 4 _ rfl
      clear uf
      have ef : ∀ t c, [Value.int .i64 i1, .string n1, .int .i64 r1, .int .i64 k1, (.slice sa1 s1.length cap1)][t]? = some c → wr.cell? ⟨b', off + j * 5 + t, none⟩ = some c := fun t c ht => (hcx0.cell (p := ⟨b', off + j * 5 + t, none⟩) hbw (fun e => e)).trans (hcells t c ht)
      have e0 : wr.cell? ⟨b', off + j * 5, none⟩ = some (.int .i64 i1) := ef 0 _ rfl
      have e1 : wr.cell? ⟨b', off + j * 5 + 1, none⟩ = some (.string n1) := ef 1 _ rfl
      have e2 : wr.cell? ⟨b', off + j * 5 + 2, none⟩ = some (.int .i64 r1) := ef 2 _ rfl
      have e3 : wr.cell? ⟨b', off + j * 5 + 3, none⟩ = some (.int .i64 k1) := ef 3 _ rfl
      have e4 : wr.cell? ⟨b', off + j * 5 + 4, none⟩ = some (.slice sa1 s1.length cap1) := ef 4 _ rfl
      clear ef
      by_cases hid : i3 = i1
      ·have hidb : (i3 == i1) = true := by simpa using hid
       have Hid := Lib.hid hid
       clear hid
       go_wp2_with fail
       refine wp_region_n (fun w' => w'.cell? ⟨b2, of2 + ii * 5, none⟩ = some (.int .i64 i3) ∧ w'.cell? ⟨b', off + j * 5, none⟩ = some (.int .i64 i1) ∧ w'.cell? ⟨w.heap.size, 4, none⟩ = some (.slice (some ⟨b2, of2, none⟩) sa.length ac) ∧ w'.cell? ⟨w.heap.size + 1, 4, none⟩ = some (.slice (some ⟨b', off, none⟩) sb.length bc)) [] (by kernel_rfl) ?_ (fun hSh => ?_)
       ·exact ⟨u0, e0, p4, q4⟩
       refine n_take (v := ?_) 0 rfl (Or.inl ⟨by rfl, ?_⟩) (by kernel_rfl) (fun _ _ _ h => h) (by assumption) ?_
       rotate_left 1
       ·(intro w' hSw; (try dsimp only at hSw); go_simp; try with_reducible rfl)
       simp only [Act.put, List.getElem_toArray, List.getElem_cons_zero, List.getElem_cons_succ, List.setIfInBounds_toArray, List.set_cons_zero, List.set_cons_succ]
       refine n_take (v := ?_) 1 rfl (Or.inl ⟨by rfl, ?_⟩) (by kernel_rfl) (fun _ _ _ h => h) (by assumption) ?_
       rotate_left 1
       ·(intro w' hSw; (try dsimp only at hSw); go_simp; try with_reducible rfl)
       simp only [Act.put, List.getElem_toArray, List.getElem_cons_zero, List.getElem_cons_succ, List.setIfInBounds_toArray, List.set_cons_zero, List.set_cons_succ]
       refine n_take (v := ?_) 2 rfl (Or.inl ⟨by rfl, ?_⟩) (by kernel_rfl) (fun _ _ _ h => h) (by assumption) ?_
       rotate_left 1
       ·(intro w' hSw; (try dsimp only at hSw); go_simp; try with_reducible rfl)
       simp only [Act.put, List.getElem_toArray, List.getElem_cons_zero, List.getElem_cons_succ, List.setIfInBounds_toArray, List.set_cons_zero, List.set_cons_succ]
       refine n_take (v := ?_) 3 rfl (Or.inl ⟨by rfl, ?_⟩) (by kernel_rfl) (fun _ _ _ h => h) (by assumption) ?_
       rotate_left 1
       ·(intro w' hSw; (try dsimp only at hSw); go_simp; try with_reducible rfl)
       simp only [Act.put, List.getElem_toArray, List.getElem_cons_zero, List.getElem_cons_succ, List.setIfInBounds_toArray, List.set_cons_zero, List.set_cons_succ]
       refine n_take (v := ?_) 4 rfl (Or.inl ⟨by rfl, ?_⟩) (by kernel_rfl) (fun _ _ _ h => h) (by assumption) ?_
       rotate_left 1
       ·(intro w' hSw; (try dsimp only at hSw); go_simp; try with_reducible rfl)
       simp only [Act.put, List.getElem_toArray, List.getElem_cons_zero, List.getElem_cons_succ, List.setIfInBounds_toArray, List.set_cons_zero, List.set_cons_succ]
       refine n_take (v := ?_) 5 rfl (Or.inl ⟨by rfl, ?_⟩) (by kernel_rfl) (fun _ _ _ h => h) (by assumption) ?_
       rotate_left 1
       ·(intro w' hSw; (try dsimp only at hSw); go_simp; try with_reducible rfl)
       simp only [Act.put, List.getElem_toArray, List.getElem_cons_zero, List.getElem_cons_succ, List.setIfInBounds_toArray, List.set_cons_zero, List.set_cons_succ]
       refine n_take (v := ?_) 6 rfl (Or.inl ⟨by rfl, ?_⟩) (by kernel_rfl) (fun _ _ _ h => h) (by assumption) ?_
       rotate_left 1
       ·(intro w' hSw; (try dsimp only at hSw); go_simp; try with_reducible rfl)
       simp only [Act.put, List.getElem_toArray, List.getElem_cons_zero, List.getElem_cons_succ, List.setIfInBounds_toArray, List.set_cons_zero, List.set_cons_succ]
       refine n_take (v := ?_) 7 rfl (Or.inl ⟨by rfl, ?_⟩) (by kernel_rfl) (fun _ _ _ h => h) (by assumption) ?_
       rotate_left 1
       ·(intro w' hSw; (try dsimp only at hSw); go_simp; try with_reducible rfl)
       simp only [Act.put, List.getElem_toArray, List.getElem_cons_zero, List.getElem_cons_succ, List.setIfInBounds_toArray, List.set_cons_zero, List.set_cons_succ]
       refine n_take (v := ?_) 8 rfl (Or.inl ⟨by rfl, ?_⟩) (by kernel_rfl) (fun _ _ _ h => h) (by assumption) ?_
       rotate_left 1
       ·(intro w' hSw; (try dsimp only at hSw); go_simp; try with_reducible rfl)
       simp only [Act.put, List.getElem_toArray, List.getElem_cons_zero, List.getElem_cons_succ, List.setIfInBounds_toArray, List.set_cons_zero, List.set_cons_succ]
       refine n_take (v := ?_) 9 rfl (Or.inl ⟨by rfl, ?_⟩) (by kernel_rfl) (fun _ _ _ h => h) (by assumption) ?_
       rotate_left 1
       ·(intro w' hSw; (try dsimp only at hSw); go_simp; try with_reducible rfl)
       simp only [Act.put, List.getElem_toArray, List.getElem_cons_zero, List.getElem_cons_succ, List.setIfInBounds_toArray, List.set_cons_zero, List.set_cons_succ]
       refine n_take (v := ?_) 10 rfl (Or.inl ⟨by rfl, ?_⟩) (by kernel_rfl) (fun _ _ _ h => h) (by assumption) ?_
       rotate_left 1
       ·(intro w' hSw; (try dsimp only at hSw); go_simp; try with_reducible rfl)
       simp only [Act.put, List.getElem_toArray, List.getElem_cons_zero, List.getElem_cons_succ, List.setIfInBounds_toArray, List.set_cons_zero, List.set_cons_succ]
       refine n_take (v := ?_) 11 rfl (Or.inl ⟨by rfl, ?_⟩) (by kernel_rfl) (fun _ _ _ h => h) (by assumption) ?_
       rotate_left 1
       ·(intro w' hSw; (try dsimp only at hSw); go_simp; try with_reducible rfl)
       simp only [Act.put, List.getElem_toArray, List.getElem_cons_zero, List.getElem_cons_succ, List.setIfInBounds_toArray, List.set_cons_zero, List.set_cons_succ]
       refine n_take (v := ?_) 12 rfl (Or.inl ⟨by rfl, ?_⟩) (by kernel_rfl) (fun _ _ _ h => h) (by assumption) ?_
       rotate_left 1
       ·(intro w' hSw; (try dsimp only at hSw); go_simp; try with_reducible rfl)
       simp only [Act.put, List.getElem_toArray, List.getElem_cons_zero, List.getElem_cons_succ, List.setIfInBounds_toArray, List.set_cons_zero, List.set_cons_succ]
       refine n_done (by kernel_rfl) ?_
       go_wp2_with fail
       refine wp_region_n (fun w' => w'.cell? ⟨b2, of2 + ii * 5, none⟩ = some (.int .i64 i3) ∧ w'.cell? ⟨b2, of2 + ii * 5 + 1, none⟩ = some (.string n3) ∧ w'.cell? ⟨b2, of2 + ii * 5 + 2, none⟩ = some (.int .i64 r3) ∧ w'.cell? ⟨b2, of2 + ii * 5 + 3, none⟩ = some (.int .i64 k3) ∧ w'.cell? ⟨b2, of2 + ii * 5 + 4, none⟩ = some (.slice as3 s3.length cs3) ∧ w'.cell? ⟨b3, of3 + ii * 6, none⟩ = some (.bool x1) ∧ w'.cell? ⟨b3, of3 + ii * 6 + 1, none⟩ = some (.int .i64 k2) ∧ w'.cell? ⟨b3, of3 + ii * 6 + 2, none⟩ = some (.int .i64 n2) ∧ w'.cell? ⟨b3, of3 + ii * 6 + 3, none⟩ = some (.string s2) ∧ w'.cell? ⟨b3, of3 + ii * 6 + 4, none⟩ = some (.slice al1 l2.length cl1) ∧ w'.cell? ⟨b3, of3 + ii * 6 + 5, none⟩ = some (.slice af1 f2.length cf1) ∧ w'.cell? ⟨b', off + j * 5, none⟩ = some (.int .i64 i1) ∧ w'.cell? ⟨b', off + j * 5 + 1, none⟩ = some (.string n1) ∧ w'.cell? ⟨b', off + j * 5 + 2, none⟩ = some (.int .i64 r1) ∧ w'.cell? ⟨b', off + j * 5 + 3, none⟩ = some (.int .i64 k1) ∧ w'.cell? ⟨b', off + j * 5 + 4, none⟩ = some (.slice sa1 s1.length cap1) ∧ w'.cell? ⟨w.heap.size, 4, none⟩ = some (.slice (some ⟨b2, of2, none⟩) sa.length ac) ∧ w'.cell? ⟨w.heap.size + 1, 4, none⟩ = some (.slice (some ⟨b', off, none⟩) sb.length bc) ∧ w'.cell? ⟨w.heap.size + 2, 5, none⟩ = some (.slice (some ⟨b3, of3, none⟩) f.length cf)) [16] (by kernel_rfl) ?_ (fun hSh => ?_)
       ·exact ⟨u0, u1, u2, u3, u4, m0, m1, m2, m3, m4, m5, e0, e1, e2, e3, e4, p4, q4, d5⟩
       refine n_take (v := ?_) 0 rfl (Or.inl ⟨by rfl, ?_⟩) (by kernel_rfl) (fun _ _ _ h => h) (by assumption) ?_
       rotate_left 1
       ·(intro w' hSw; (try dsimp only at hSw); go_simp; try with_reducible rfl)
       simp only [Act.put, List.getElem_toArray, List.getElem_cons_zero, List.getElem_cons_succ, List.setIfInBounds_toArray, List.set_cons_zero, List.set_cons_succ]
       refine n_take (v := ?_) 1 rfl (Or.inl ⟨by rfl, ?_⟩) (by kernel_rfl) (fun _ _ _ h => h) (by assumption) ?_
       rotate_left 1
       ·(intro w' hSw; (try dsimp only at hSw); go_simp; try with_reducible rfl)
       simp only [Act.put, List.getElem_toArray, List.getElem_cons_zero, List.getElem_cons_succ, List.setIfInBounds_toArray, List.set_cons_zero, List.set_cons_succ]
       refine n_take (v := ?_) 2 rfl (Or.inl ⟨by rfl, ?_⟩) (by kernel_rfl) (fun _ _ _ h => h) (by assumption) ?_
       rotate_left 1
       ·(intro w' hSw; (try dsimp only at hSw); go_simp; try with_reducible rfl)
       simp only [Act.put, List.getElem_toArray, List.getElem_cons_zero, List.getElem_cons_succ, List.setIfInBounds_toArray, List.set_cons_zero, List.set_cons_succ]
       refine n_take (v := ?_) 3 rfl (Or.inl ⟨by rfl, ?_⟩) (by kernel_rfl) (fun _ _ _ h => h) (by assumption) ?_
       rotate_left 1
       ·(intro w' hSw; (try dsimp only at hSw); go_simp; try with_reducible rfl)
       simp only [Act.put, List.getElem_toArray, List.getElem_cons_zero, List.getElem_cons_succ, List.setIfInBounds_toArray, List.set_cons_zero, List.set_cons_succ]
       refine n_take (v := ?_) 4 rfl (Or.inl ⟨by rfl, ?_⟩) (by kernel_rfl) (fun _ _ _ h => h) (by assumption) ?_
       rotate_left 1
       ·(intro w' hSw; (try dsimp only at hSw); go_simp; try with_reducible rfl)
       simp only [Act.put, List.getElem_toArray, List.getElem_cons_zero, List.getElem_cons_succ, List.setIfInBounds_toArray, List.set_cons_zero, List.set_cons_succ]
       refine n_take (v := ?_) 5 rfl (Or.inl ⟨by rfl, ?_⟩) (by kernel_rfl) (fun _ _ _ h => h) (by assumption) ?_
       rotate_left 1
       ·(intro w' hSw; (try dsimp only at hSw); go_simp; try with_reducible rfl)
       simp only [Act.put, List.getElem_toArray, List.getElem_cons_zero, List.getElem_cons_succ, List.setIfInBounds_toArray, List.set_cons_zero, List.set_cons_succ]
       refine n_take (v := ?_) 6 rfl (Or.inl ⟨by rfl, ?_⟩) (by kernel_rfl) (fun _ _ _ h => h) (by assumption) ?_
       rotate_left 1
       ·(intro w' hSw; (try dsimp only at hSw); go_simp; try with_reducible rfl)
       simp only [Act.put, List.getElem_toArray, List.getElem_cons_zero, List.getElem_cons_succ, List.setIfInBounds_toArray, List.set_cons_zero, List.set_cons_succ]
       refine n_take (v := ?_) 7 rfl (Or.inl ⟨by rfl, ?_⟩) (by kernel_rfl) (fun _ _ _ h => h) (by assumption) ?_
       rotate_left 1
       ·(intro w' hSw; (try dsimp only at hSw); go_simp; try with_reducible rfl)
       simp only [Act.put, List.getElem_toArray, List.getElem_cons_zero, List.getElem_cons_succ, List.setIfInBounds_toArray, List.set_cons_zero, List.set_cons_succ]
       refine n_take (v := ?_) 8 rfl (Or.inl ⟨by rfl, ?_⟩) (by kernel_rfl) (fun _ _ _ h => h) (by assumption) ?_
       rotate_left 1
       ·(intro w' hSw; (try dsimp only at hSw); go_simp; try with_reducible rfl)
       simp only [Act.put, List.getElem_toArray, List.getElem_cons_zero, List.getElem_cons_succ, List.setIfInBounds_toArray, List.set_cons_zero, List.set_cons_succ]
       refine n_take (v := ?_) 9 rfl (Or.inl ⟨by rfl, ?_⟩) (by kernel_rfl) (fun _ _ _ h => h) (by assumption) ?_
       rotate_left 1
       ·(intro w' hSw; (try dsimp only at hSw); go_simp; try with_reducible rfl)
       simp only [Act.put, List.getElem_toArray, List.getElem_cons_zero, List.getElem_cons_succ, List.setIfInBounds_toArray, List.set_cons_zero, List.set_cons_succ]
       refine n_take (v := ?_) 10 rfl (Or.inl ⟨by rfl, ?_⟩) (by kernel_rfl) (fun _ _ _ h => h) (by assumption) ?_
       rotate_left 1
       ·(intro w' hSw; (try dsimp only at hSw); go_simp; try with_reducible rfl)
       simp only [Act.put, List.getElem_toArray, List.getElem_cons_zero, List.getElem_cons_succ, List.setIfInBounds_toArray, List.set_cons_zero, List.set_cons_succ]
       refine n_take (v := ?_) 11 rfl (Or.inl ⟨by rfl, ?_⟩) (by kernel_rfl) (fun _ _ _ h => h) (by assumption) ?_
       rotate_left 1
       ·(intro w' hSw; (try dsimp only at hSw); go_simp; try with_reducible rfl)
       simp only [Act.put, List.getElem_toArray, List.getElem_cons_zero, List.getElem_cons_succ, List.setIfInBounds_toArray, List.set_cons_zero, List.set_cons_succ]
       refine n_take (v := ?_) 12 rfl (Or.inl ⟨by rfl, ?_⟩) (by kernel_rfl) (fun _ _ _ h => h) (by assumption) ?_
       rotate_left 1
       ·(intro w' hSw; (try dsimp only at hSw); go_simp; try with_reducible rfl)
       simp only [Act.put, List.getElem_toArray, List.getElem_cons_zero, List.getElem_cons_succ, List.setIfInBounds_toArray, List.set_cons_zero, List.set_cons_succ]
       refine n_take (v := ?_) 13 rfl (Or.inl ⟨by rfl, ?_⟩) (by kernel_rfl) (fun _ _ _ h => h) (by assumption) ?_
       rotate_left 1
       ·(intro w' hSw; (try dsimp only at hSw); go_simp; try with_reducible rfl)
       simp only [Act.put, List.getElem_toArray, List.getElem_cons_zero, List.getElem_cons_succ, List.setIfInBounds_toArray, List.set_cons_zero, List.set_cons_succ]
       refine n_take (v := ?_) 14 rfl (Or.inl ⟨by rfl, ?_⟩) (by kernel_rfl) (fun _ _ _ h => h) (by assumption) ?_
       rotate_left 1
       ·(intro w' hSw; (try dsimp only at hSw); go_simp; try with_reducible rfl)
       simp only [Act.put, List.getElem_toArray, List.getElem_cons_zero, List.getElem_cons_succ, List.setIfInBounds_toArray, List.set_cons_zero, List.set_cons_succ]
       refine n_step 15 rfl (by kernel_rfl) ?_
       go_wp2_with fail
       refine (Hc2.out wr.drew.drew Sa Sb Sd _ _ _ (hrg.chg0 hcx0.drew.drew) (hre.chg0 hcx0.drew.drew) (hrf.chg0 hcx0.drew.drew)).mono ?_
       rintro en wk ⟨kcs, rfl, hrk, hck⟩
       replace hck := hck.ofDrew.ofDrew
       generalize hY : moveF (.mk x1 k2 n2 s2 l2 f2) (.mk i3 n3 r3 k3 s3) (.mk i1 n1 r1 k1 s1) false = dy at hrk
       have HY := Lib.hid ((Hyes.out Hid.out).trans hY)
       clear hY
       obtain ⟨t9, tk, tn, ts, tl, tf⟩ := dy
       obtain ⟨vl5, vf5, rfl, hs8, hs9⟩ := reads_dm.1 hrk
       obtain ⟨a5, c5, rfl, _, _, _⟩ := reads_data hs8
       obtain ⟨a6, c6, rfl, _, _, _⟩ := reads_data hs9
       clear hs8 hs9
       go_wp2_with fail
       refine ⟨fun _ => ?_, fun hSk => ?_⟩
       ·(repeat' refine And.intro ?_ ?_) <;> exact (hck.cell (lt_of_cell (by assumption)) NoB.elim).trans (by assumption)
       replace hSk := hSk (by rfl)
       refine n_step 16 rfl (by kernel_rfl) ?_
       have hbk := hbx2.keep hck NoB.elim
       have o0 : wk.cell? ⟨xb, 0, none⟩ = some (.bool z9) := hbk.cell 0
       have o1 : wk.cell? ⟨xb, 1, none⟩ = some (.int .i64 (zk)) := hbk.cell 1
       have o2 : wk.cell? ⟨xb, 2, none⟩ = some (.int .i64 (zn)) := hbk.cell 2
       have o3 : wk.cell? ⟨xb, 3, none⟩ = some (.string zs) := hbk.cell 3
       have o4 : wk.cell? ⟨xb, 4, none⟩ = some (.slice z8 zl.length y8) := hbk.cell 4
       have o5 : wk.cell? ⟨xb, 5, none⟩ = some (.slice z7 zf.length y7) := hbk.cell 5
       have ff0 : wk.frozen? ⟨xb, 0, none⟩ = false := hbk.free 0
       have ff1 : wk.frozen? ⟨xb, 1, none⟩ = false := hbk.free 1
       have ff2 : wk.frozen? ⟨xb, 2, none⟩ = false := hbk.free 2
       have ff3 : wk.frozen? ⟨xb, 3, none⟩ = false := hbk.free 3
       have ff4 : wk.frozen? ⟨xb, 4, none⟩ = false := hbk.free 4
       have ff5 : wk.frozen? ⟨xb, 5, none⟩ = false := hbk.free 5
       go_wp2_with fail
       refine ⟨fun hx => absurd hx (by decide), fun _ => ?_⟩
       refine n_done (by kernel_rfl) ?_
       go_wp2_with fail
       have hsE := store6_chg wk xb (.bool t9) (.int .i64 tk) (.int .i64 tn) (.string ts) (.slice a5 tl.length c5) (.slice a6 tf.length c6)
       go_roundw
       case rel =>
        have hrk2 := (hrk.chg hsE (fun b hb e => by have hb : wr.heap.size ≤ b := hb; have e : b = xb := e; omega)).mono (S' := fun b => wo.heap.size ≤ b ∧ b ≠ xb) (fun b hb => by have hb : wr.heap.size ≤ b := hb; exact ⟨by omega, by omega⟩)
        exact ⟨ii + 1, t9, tk, tn, ts, tl, tf, _, _, hlt2, by go_num, (hci.trans hck (fun b e => NoB.elim e)).trans hsE (fun b e => .inl e), HY.out, store6 hbk _ _ _ _ _ _, hrk2⟩
       case measure => simp [intOf]; omega
      ·have hidb : (i3 == i1) = false := by simpa using hid
       have Hid := Lib.hid hid
       clear hid
       go_wp2_with fail
       refine wp_region_n (fun w' => w'.cell? ⟨b2, of2 + ii * 5, none⟩ = some (.int .i64 i3) ∧ w'.cell? ⟨b', off + j * 5, none⟩ = some (.int .i64 i1) ∧ w'.cell? ⟨w.heap.size, 4, none⟩ = some (.slice (some ⟨b2, of2, none⟩) sa.length ac) ∧ w'.cell? ⟨w.heap.size + 1, 4, none⟩ = some (.slice (some ⟨b', off, none⟩) sb.length bc)) [] (by kernel_rfl) ?_ (fun hSh => ?_)
       ·exact ⟨u0, e0, p4, q4⟩
       refine n_take (v := ?_) 0 rfl (Or.inl ⟨by rfl, ?_⟩) (by kernel_rfl) (fun _ _ _ h => h) (by assumption) ?_
       rotate_left 1
       ·(intro w' hSw; (try dsimp only at hSw); go_simp; try with_reducible rfl)
       simp only [Act.put, List.getElem_toArray, List.getElem_cons_zero, List.getElem_cons_succ, List.setIfInBounds_toArray, List.set_cons_zero, List.set_cons_succ]
       refine n_take (v := ?_) 1 rfl (Or.inl ⟨by rfl, ?_⟩) (by kernel_rfl) (fun _ _ _ h => h) (by assumption) ?_
       rotate_left 1
       ·(intro w' hSw; (try dsimp only at hSw); go_simp; try with_reducible rfl)
       simp only [Act.put, List.getElem_toArray, List.getElem_cons_zero, List.getElem_cons_succ, List.setIfInBounds_toArray, List.set_cons_zero, List.set_cons_succ]
       refine n_take (v := ?_) 2 rfl (Or.inl ⟨by rfl, ?_⟩) (by kernel_rfl) (fun _ _ _ h => h) (by assumption) ?_
       rotate_left 1
       ·(intro w' hSw; (try dsimp only at hSw); go_simp; try with_reducible rfl)
       simp only [Act.put, List.getElem_toArray, List.getElem_cons_zero, List.getElem_cons_succ, List.setIfInBounds_toArray, List.set_cons_zero, List.set_cons_succ]
       refine n_take (v := ?_) 3 rfl (Or.inl ⟨by rfl, ?_⟩) (by kernel_rfl) (fun _ _ _ h => h) (by assumption) ?_
       rotate_left 1
       ·(intro w' hSw; (try dsimp only at hSw); go_simp; try with_reducible rfl)
       simp only [Act.put, List.getElem_toArray, List.getElem_cons_zero, List.getElem_cons_succ, List.setIfInBounds_toArray, List.set_cons_zero, List.set_cons_succ]
       refine n_take (v := ?_) 4 rfl (Or.inl ⟨by rfl, ?_⟩) (by kernel_rfl) (fun _ _ _ h => h) (by assumption) ?_
       rotate_left 1
       ·(intro w' hSw; (try dsimp only at hSw); go_simp; try with_reducible rfl)
       simp only [Act.put, List.getElem_toArray, List.getElem_cons_zero, List.getElem_cons_succ, List.setIfInBounds_toArray, List.set_cons_zero, List.set_cons_succ]
       refine n_take (v := ?_) 5 rfl (Or.inl ⟨by rfl, ?_⟩) (by kernel_rfl) (fun _ _ _ h => h) (by assumption) ?_
       rotate_left 1
       ·(intro w' hSw; (try dsimp only at hSw); go_simp; try with_reducible rfl)
       simp only [Act.put, List.getElem_toArray, List.getElem_cons_zero, List.getElem_cons_succ, List.setIfInBounds_toArray, List.set_cons_zero, List.set_cons_succ]
       refine n_take (v := ?_) 6 rfl (Or.inl ⟨by rfl, ?_⟩) (by kernel_rfl) (fun _ _ _ h => h) (by assumption) ?_
       rotate_left 1
       ·(intro w' hSw; (try dsimp only at hSw); go_simp; try with_reducible rfl)
       simp only [Act.put, List.getElem_toArray, List.getElem_cons_zero, List.getElem_cons_succ, List.setIfInBounds_toArray, List.set_cons_zero, List.set_cons_succ]
       refine n_take (v := ?_) 7 rfl (Or.inl ⟨by rfl, ?_⟩) (by kernel_rfl) (fun _ _ _ h => h) (by assumption) ?_
       rotate_left 1
       ·(intro w' hSw; (try dsimp only at hSw); go_simp; try with_reducible rfl)
       simp only [Act.put, List.getElem_toArray, List.getElem_cons_zero, List.getElem_cons_succ, List.setIfInBounds_toArray, List.set_cons_zero, List.set_cons_succ]
       refine n_take (v := ?_) 8 rfl (Or.inl ⟨by rfl, ?_⟩) (by kernel_rfl) (fun _ _ _ h => h) (by assumption) ?_
       rotate_left 1
       ·(intro w' hSw; (try dsimp only at hSw); go_simp; try with_reducible rfl)
       simp only [Act.put, List.getElem_toArray, List.getElem_cons_zero, List.getElem_cons_succ, List.setIfInBounds_toArray, List.set_cons_zero, List.set_cons_succ]
       refine n_take (v := ?_) 9 rfl (Or.inl ⟨by rfl, ?_⟩) (by kernel_rfl) (fun _ _ _ h => h) (by assumption) ?_
       rotate_left 1
       ·(intro w' hSw; (try dsimp only at hSw); go_simp; try with_reducible rfl)
       simp only [Act.put, List.getElem_toArray, List.getElem_cons_zero, List.getElem_cons_succ, List.setIfInBounds_toArray, List.set_cons_zero, List.set_cons_succ]
       refine n_take (v := ?_) 10 rfl (Or.inl ⟨by rfl, ?_⟩) (by kernel_rfl) (fun _ _ _ h => h) (by assumption) ?_
       rotate_left 1
       ·(intro w' hSw; (try dsimp only at hSw); go_simp; try with_reducible rfl)
       simp only [Act.put, List.getElem_toArray, List.getElem_cons_zero, List.getElem_cons_succ, List.setIfInBounds_toArray, List.set_cons_zero, List.set_cons_succ]
       refine n_take (v := ?_) 11 rfl (Or.inl ⟨by rfl, ?_⟩) (by kernel_rfl) (fun _ _ _ h => h) (by assumption) ?_
       rotate_left 1
       ·(intro w' hSw; (try dsimp only at hSw); go_simp; try with_reducible rfl)
       simp only [Act.put, List.getElem_toArray, List.getElem_cons_zero, List.getElem_cons_succ, List.setIfInBounds_toArray, List.set_cons_zero, List.set_cons_succ]
       refine n_take (v := ?_) 12 rfl (Or.inl ⟨by rfl, ?_⟩) (by kernel_rfl) (fun _ _ _ h => h) (by assumption) ?_
       rotate_left 1
       ·(intro w' hSw; (try dsimp only at hSw); go_simp; try with_reducible rfl)
       simp only [Act.put, List.getElem_toArray, List.getElem_cons_zero, List.getElem_cons_succ, List.setIfInBounds_toArray, List.set_cons_zero, List.set_cons_succ]
       refine n_done (by kernel_rfl) ?_
       go_wp2_with fail
       go_roundw
       case rel => exact ⟨ii + 1, z9, zk, zn, zs, zl, zf, _, _, hlt2, by go_num, hci.drew, (Hno.out Hid.out).trans Hpick.out, hbx2.drew, hrx.chg0 (Chg.refl _ _).drew⟩
       case measure => simp [intOf]; omega
     ·have hiil : ii = sa.length := by omega
      subst hiil
      have hlt2I : ¬ ((sa.length : Int) < (sa.length : Int)) := by omega
      have Hall := Lib.hid (show pickF (movers f sa) (.mk i1 n1 r1 k1 s1) = .mk z9 zk zn zs zl zf from by
       have h8 := Hpick.out
       rwa [List.take_of_length_le (by rw [movers_len Hflen.out]; exact Nat.le_refl _)] at h8)
      have c0 : wr.cell? ⟨xb, 0, none⟩ = some (.bool z9) := hbx2.cell 0
      have c1 : wr.cell? ⟨xb, 1, none⟩ = some (.int .i64 (zk)) := hbx2.cell 1
      have c2 : wr.cell? ⟨xb, 2, none⟩ = some (.int .i64 (zn)) := hbx2.cell 2
      have c3 : wr.cell? ⟨xb, 3, none⟩ = some (.string zs) := hbx2.cell 3
      have c4 : wr.cell? ⟨xb, 4, none⟩ = some (.slice z8 zl.length y8) := hbx2.cell 4
      have c5 : wr.cell? ⟨xb, 5, none⟩ = some (.slice z7 zf.length y7) := hbx2.cell 5
      have g5 : wr.cell? ⟨w.heap.size + 4, 5, none⟩ = some v0 := hi4.cell 5
      go_wp2_with (at_builtin; refine stop_here ?_)
      refine Stop.go ?_
      generalize hwB : World.alloc wr _ = wB
      have hcB : Chg NoB wr wB := by
       rw [← hwB]
       repeat (first | exact Chg.refl _ _ | apply Chg.alloc | apply Chg.drew)
      have hbn : Blk wB (wr.heap.size) ([.bool z9, .int .i64 zk, .int .i64 zn, .string zs, .slice z8 zl.length y8, .slice z7 zf.length y7]) 43 := by
       rw [← hwB]
       repeat (first | exact Blk.newAt (by first | rfl | (simp; done) | (simp; omega)) | apply Blk.alloc | apply Blk.drew)
      clear hwB
      have hoB := (((ho.inHeap.keep hox (fun _ _ e => NoB.elim e) (fun _ _ e => NoB.elim e)).keep hci (fun b hb e => by have := hb.2; have e : b = xb := e; omega) (fun b hb e => by have := (hobr b hb).2; have e : b = xb := e; omega)).keep hcB (fun _ _ e => NoB.elim e) (fun _ _ e => NoB.elim e)).mono (Nat.le_refl _) (fun b hb => hb.1)
      have hrB := hrx.chg0 hcB
      have hlA : (Dm.dts ((sb.take j).map (pickF (movers f sa)))).length = j := by rw [Dm.dts_eq, List.length_map, List.length_map, List.length_take]; omega
      refine wpList_own rfl (.tmp 109) (.tmp 111) 41 rfl (w.heap.size + 5) 43 Tryz.underlying41 infoDatum rfl (by decide) rfl hoB rfl [Dm.dt (.mk z9 zk zn zs zl zf)] _ rfl (ReadsC.single rfl (hrB.mono ?_)) hbn.news (fun e => by cases e) ?_ ?_ ?_ ?_
      ·intro b hb
       have hb1 := hb.1
       exact ⟨by omega, hfarAll b (.inr (by omega))⟩
      ·rw [hlA]; unfold maxLen; omega
      ·rw [hlA]; omega
      ·have := hcB.size; omega
      intro ao5 cap5 wC hoC hcC hatC
      rw [hlA] at hoC ⊢
      have hcC0 : Chg NoB w wC := (hcx0.tr hcB).trans hcC (fun b e => .inr (by have := (hobr b e).1; omega))
      have hbC0 := (hi0.keep hcB NoB.elim).keep hcC (hfarAll _ (.inl (by omega)))
      have hbC1 := (hi1.keep hcB NoB.elim).keep hcC (hfarAll _ (.inl (by omega)))
      have hbC2 := (hi2.keep hcB NoB.elim).keep hcC (hfarAll _ (.inl (by omega)))
      have hbC3 := (hi3.keep hcB NoB.elim).keep hcC (hfarAll _ (.inl (by omega)))
      have hbC4 := (hi4.keep hcB NoB.elim).keep hcC (hfarAll _ (.inl (by omega)))
      have o5 : wC.cell? ⟨w.heap.size + 4, 5, none⟩ = some v0 := hbC4.cell 5
      have f5 : wC.frozen? ⟨w.heap.size + 4, 5, none⟩ = false := hbC4.free 5
      go_wp2_with fail
      go_roundw
      case rel =>
       refine ⟨j + 1, _, hlt, by go_num, hcC0.setCell (.inr (by dsimp only; omega)) _, hbC0.other (by dsimp only; omega) _, hbC1.other (by dsimp only; omega) _, hbC2.other (by dsimp only; omega) _, hbC3.other (by dsimp only; omega) _, hbC4.set 5 _, ?_⟩
       show Own _ _ _ _ _ _ (Dm.dts ((sb.take (j + 1)).map (pickF (movers f sa))))
       rw [Htake.out, Dm.dts_append, Hall.out]
       exact hoC.setCell (fun b hb => by have hb : w.heap.size + 5 ≤ b := hb; dsimp only; omega) (by dsimp only; omega) _
      case measure => simp [intOf]; omega
   ·have hjl : j = sb.length := by omega
    subst hjl
    have hltI : ¬ ((sb.length : Int) < (sb.length : Int)) := by omega
    rw [List.take_length] at ho
    have hlm : (Dm.dts (sb.map (pickF (movers f sa)))).length = sb.length := by rw [Dm.dts_eq, List.length_map, List.length_map]
    obtain ⟨ao, cap', hv⟩ := ho.form
    rw [hlm] at hv
    subst hv
    obtain ⟨wr, hwo2⟩ : ∃ x, x = wo := ⟨_, rfl⟩
    subst hwo2
    have c0 : wr.cell? ⟨w.heap.size + 4, 0, none⟩ = some (.bool false) := hb4.cell 0
    have c1 : wr.cell? ⟨w.heap.size + 4, 1, none⟩ = some (.int .i64 (0)) := hb4.cell 1
    have c2 : wr.cell? ⟨w.heap.size + 4, 2, none⟩ = some (.int .i64 (0)) := hb4.cell 2
    have c3 : wr.cell? ⟨w.heap.size + 4, 3, none⟩ = some (.string ⟨#[]⟩) := hb4.cell 3
    have c4 : wr.cell? ⟨w.heap.size + 4, 4, none⟩ = some (.slice none 0 0) := hb4.cell 4
    have c5 : wr.cell? ⟨w.heap.size + 4, 5, none⟩ = some (.slice ao sb.length cap') := hb4.cell 5
    have d0 : wr.cell? ⟨w.heap.size + 3, 0, none⟩ = some (.bool false) := hb3.cell 0
    have d1 : wr.cell? ⟨w.heap.size + 3, 1, none⟩ = some (.int .i64 (0)) := hb3.cell 1
    have d2 : wr.cell? ⟨w.heap.size + 3, 2, none⟩ = some (.int .i64 (0)) := hb3.cell 2
    have d3 : wr.cell? ⟨w.heap.size + 3, 3, none⟩ = some (.string ⟨#[]⟩) := hb3.cell 3
    have d4 : wr.cell? ⟨w.heap.size + 3, 4, none⟩ = some (.slice none 0 0) := hb3.cell 4
    have d5 : wr.cell? ⟨w.heap.size + 3, 5, none⟩ = some (.slice none 0 0) := hb3.cell 5
    have f0 : wr.frozen? ⟨w.heap.size + 3, 0, none⟩ = false := hb3.free 0
    have f1 : wr.frozen? ⟨w.heap.size + 3, 1, none⟩ = false := hb3.free 1
    have f2 : wr.frozen? ⟨w.heap.size + 3, 2, none⟩ = false := hb3.free 2
    have f3 : wr.frozen? ⟨w.heap.size + 3, 3, none⟩ = false := hb3.free 3
    have f4 : wr.frozen? ⟨w.heap.size + 3, 4, none⟩ = false := hb3.free 4
    have f5 : wr.frozen? ⟨w.heap.size + 3, 5, none⟩ = false := hb3.free 5
    go_wp2_with fail
    have hbE := store6 hb3 (.bool false) (.int .i64 (0)) (.int .i64 (0)) (.string ⟨#[]⟩) (.slice none 0 0) (.slice ao sb.length cap')
    have hsE := store6_chg wr (w.heap.size + 3) (.bool false) (.int .i64 (0)) (.int .i64 (0)) (.string ⟨#[]⟩) (.slice none 0 0) (.slice ao sb.length cap')
    have hcE := hc.trans hsE (fun i e => .inr (by have e : i = w.heap.size + 3 := e; omega))
    generalize World.setCell (World.setCell (World.setCell (World.setCell (World.setCell (World.setCell wr ⟨w.heap.size + 3, 0, none⟩ (.bool false)) ⟨w.heap.size + 3, 1, none⟩ (.int .i64 (0))) ⟨w.heap.size + 3, 2, none⟩ (.int .i64 (0))) ⟨w.heap.size + 3, 3, none⟩ (.string ⟨#[]⟩)) ⟨w.heap.size + 3, 4, none⟩ (.slice none 0 0)) ⟨w.heap.size + 3, 5, none⟩ (.slice ao sb.length cap') = wE at hbE hsE hcE ⊢
    have n0 : wE.cell? ⟨w.heap.size + 3, 0, none⟩ = some (.bool false) := hbE.cell 0
    have n1 : wE.cell? ⟨w.heap.size + 3, 1, none⟩ = some (.int .i64 (0)) := hbE.cell 1
    have n2 : wE.cell? ⟨w.heap.size + 3, 2, none⟩ = some (.int .i64 (0)) := hbE.cell 2
    have n3 : wE.cell? ⟨w.heap.size + 3, 3, none⟩ = some (.string ⟨#[]⟩) := hbE.cell 3
    have n4 : wE.cell? ⟨w.heap.size + 3, 4, none⟩ = some (.slice none 0 0) := hbE.cell 4
    have n5 : wE.cell? ⟨w.heap.size + 3, 5, none⟩ = some (.slice ao sb.length cap') := hbE.cell 5
    refine bodyPost_ret (v := .agg #[.bool false, .int .i64 (0), .int .i64 0, .string ⟨#[]⟩, .slice none 0 0, .slice ao sb.length cap']) (by simp [results, Tryz.results28, go_sem, n0, n1, n2, n3, n4, n5]) rfl ?_
    refine ⟨_, rfl, reads_dm.2 ⟨_, _, rfl, nil_data _ _, ?_⟩, hcE⟩
    have hof := ho.keep hsE (fun b hb e => by have hb : w.heap.size + 5 ≤ b := hb; have e : b = w.heap.size + 3 := e; omega) (fun b hb e => by have := (ho.block b hb).1; have e : b = w.heap.size + 3 := e; omega)
    exact hof.reads (fun b hb => by have hb : w.heap.size + 5 ≤ b := hb; show w.heap.size ≤ b; omega) (fun b hb _ => by show w.heap.size ≤ b; omega) (by rw [hlm]; unfold maxLen; omega)
end Go.Proofs.YtgcmfpcgmkkobaaGreatDoor
