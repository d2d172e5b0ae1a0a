/-
  The functions that schema.Valid hands on: the first three.
-/
import Derived.Test.YtnmhkafpgohefaaGreatDoorAll
import Derived.Test.YtnmhkafpgohefaaGreatDoorNames
set_option linter.unusedVariables false
set_option maxHeartbeats 20000000
set_option maxRecDepth 100000
set_option linter.unusedSimpArgs false
namespace Go.Proofs.YtnmhkafpgohefaaGreatDoor
open Go.RowKit
def BoxI (c : Nat) (s : Int) (w : World) : Prop := Blk w c [.int .i64 s] 3
def v1F (_ : Nd) (d : Int) (s : Int) : Bool × Int := (decide (s + 1 ≤ 40) && decide (d ≤ 6), s + 1)
theorem sees_v1 (B c : Nat) (hB : B ≤ c) : Sees 59 #[.pointer (some ⟨c, 0, none⟩)] 3 B c (BoxI c) v1F (fun _ d => 0 ≤ d ∧ d ≤ 7) (fun s => 0 ≤ s ∧ s ≤ 40) where
 enters := enters_of Tryz.func59 (by kernel_rfl) rfl
 lt := fun s w h => Blk.lt h
 keep := fun s w w' h hc => Blk.keep h hc nbE
 deep := fun n d h => by omega
 down := fun n d s h hf => by
  simp only [v1F, Bool.and_eq_true, decide_eq_true_eq] at hf
  exact fun x _ => by omega
 go := fun n d s _ hG hf => by
  simp only [v1F, Bool.and_eq_true, decide_eq_true_eq] at hf ⊢
  omega
 call := by
  intro n d s w S cs hO hG hok hr hSB hBw hSt
  unfold BoxI at hSt
  obtain ⟨i, nm, r, k, sb⟩ := n
  obtain ⟨sv, rfl, hs⟩ := reads_nd.1 hr
  obtain ⟨sa, cap, rfl, hlen, hcap, hel⟩ := reads_subs hs
  have cq : w.cell? ⟨c, 0, none⟩ = some (.int .i64 s) := hSt.cell 0
  have fq : w.frozen? ⟨c, 0, none⟩ = false := hSt.free 0
  have hcl : c < w.heap.size := hSt.lt
  have hset := hSt.set 0 (.int .i64 (s + 1))
  have hchg := (Chg.refl (RowsOf w 3 B c) w).setCell (p := ⟨c, 0, none⟩) (.inl ⟨hB, .inl rfl⟩) (.int .i64 (s + 1))
  by_cases h1 : s + 1 ≤ 40
  ·by_cases h2 : d ≤ 6
   ·have hv : v1F (.mk i nm r k sb) d s = (true, s + 1) := by simp [v1F, h1, h2]
    rw [hv]
    go_enter Tryz.func59, Tryz.ntmps59
    go_wp2_with fail
    go_ret
    exact ⟨rfl, hset.alloc _, hchg.alloc _⟩
   ·have hv : v1F (.mk i nm r k sb) d s = (false, s + 1) := by simp [v1F, h2]
    rw [hv]
    go_enter Tryz.func59, Tryz.ntmps59
    go_wp2_with fail
    go_ret
    exact ⟨rfl, hset.alloc _, hchg.alloc _⟩
  ·have hv : v1F (.mk i nm r k sb) d s = (false, s + 1) := by simp [v1F, h1]
   rw [hv]
   go_enter Tryz.func59, Tryz.ntmps59
   go_wp2_with fail
   go_ret
   exact ⟨rfl, hset.alloc _, hchg.alloc _⟩
def BoxF (c g : Nat) (w : World) : Prop := Blk w c [.func (.func g) #[] #[]] 124
theorem v2_any (nd : Nd) (w : World) (S : Nat → Prop) (cs : List Value) (hok : nd.ok) (hr : Reads w S nd.dt cs) :
  Calls Tryz.prog 60 #[.agg cs.toArray] w (RetV (.bool (!decide (nd.kind = 0))) w) := by
 obtain ⟨i, nm, r, k, sb⟩ := nd
 obtain ⟨sv, rfl, hs⟩ := reads_nd.1 hr
 obtain ⟨sa, cap, rfl, hlen, hcap, hel⟩ := reads_subs hs
 by_cases hk : k = 0
 ·subst hk
  go_enter Tryz.func60, Tryz.ntmps60
  go_wp2_with fail
  go_ret
  exact ⟨rfl, (Chg.refl _ _).alloc _⟩
 ·have hk' : (k != 0) = true := by simpa using hk
  have hv : (!decide ((Nd.mk i nm r k sb).kind = 0)) = true := by simp [Nd.kind, hk]
  rw [hv]
  go_enter Tryz.func60, Tryz.ntmps60
  go_wp2_with fail
  go_ret
  exact ⟨rfl, (Chg.refl _ _).alloc _⟩
def v3F (n : Nd) (s : Unit) : Bool × Unit := (decide (1 ≤ n.rep) && decide (n.rep ≤ 3) && decide (0 ≤ n.kind) && decide (n.kind ≤ 5) && ((!decide (n.kind = 0)) == n.sub.isEmpty), s)
theorem oks_v3 (B c : Nat) (hB : B ≤ c) : Oks 62 #[.pointer (some ⟨c, 0, none⟩)] 3 B c (fun _ w => BoxF c 60 w) v3F (fun _ => True) where
 enters := enters_of Tryz.func62 (by kernel_rfl) rfl
 lt := fun s w h => Blk.lt h
 keep := fun s w w' h hc => Blk.keep h hc nbE
 go := fun n s hG _ => hG
 call := by
  intro n s w S cs hG hok hr hSB hBw hSt
  unfold BoxF at hSt
  have he := enters_of Tryz.func60 (P := Tryz.prog) (by kernel_rfl) rfl
  obtain ⟨i, nm, r, k, sb⟩ := n
  obtain ⟨sv, rfl, hs⟩ := reads_nd.1 hr
  obtain ⟨sa, cap, rfl, hlen, hcap, hel⟩ := reads_subs hs
  have cq : w.cell? ⟨c, 0, none⟩ = some (.func (.func 60) #[] #[]) := hSt.cell 0
  have hcl : c < w.heap.size := hSt.lt
  by_cases h1 : 1 ≤ r
  case neg =>
   have hv : v3F (.mk i nm r k sb) s = (false, s) := by simp [v3F, Nd.rep, Nd.kind, h1]
   rw [hv]
   go_enter Tryz.func62, Tryz.ntmps62
   go_wp2_with fail
   generalize hw1 : w.alloc _ = w1
   have hc1 : Chg NoB w w1 := by
    rw [← hw1]
    repeat (first | exact Chg.refl _ _ | apply Chg.alloc | apply Chg.drew)
   have hb1 : Blk w1 (w.heap.size) (ndCells i nm r k (.slice sa sb.length cap)) 56 := by
    rw [← hw1]
    repeat (first | exact Blk.newAt (by first | rfl | (simp; done) | (simp; omega)) | apply Blk.alloc | apply Blk.drew)
   clear hw1
   have c0 : w1.cell? ⟨w.heap.size, 0, none⟩ = some (.int .i64 (i)) := hb1.cell 0
   have c1 : w1.cell? ⟨w.heap.size, 1, none⟩ = some (.string nm) := hb1.cell 1
   have c2 : w1.cell? ⟨w.heap.size, 2, none⟩ = some (.int .i64 (r)) := hb1.cell 2
   have c3 : w1.cell? ⟨w.heap.size, 3, none⟩ = some (.int .i64 (k)) := hb1.cell 3
   have c4 : w1.cell? ⟨w.heap.size, 4, none⟩ = some (.slice sa sb.length cap) := hb1.cell 4
   have cq1 : w1.cell? ⟨c, 0, none⟩ = some (.func (.func 60) #[] #[]) := (hSt.keep hc1 nbE).cell 0
   refine wp_region_n (fun w' => w'.cell? ⟨w.heap.size, 0, none⟩ = some (.int .i64 i) ∧ w'.cell? ⟨w.heap.size, 1, none⟩ = some (.string nm) ∧ w'.cell? ⟨w.heap.size, 2, none⟩ = some (.int .i64 r) ∧ w'.cell? ⟨w.heap.size, 3, none⟩ = some (.int .i64 k) ∧ w'.cell? ⟨w.heap.size, 4, none⟩ = some (.slice sa sb.length cap) ∧ w'.cell? ⟨c, 0, none⟩ = some (.func (.func 60) #[] #[])) [28] (by kernel_rfl) ?_ (fun hSh => ?_)
   ·exact ⟨c0, c1, c2, c3, c4, cq1⟩
   have e1 : decide (1 ≤ r) = false := decide_eq_false (by omega)
   refine n_tA (v := ?_) 0 rfl (Or.inl ⟨by rfl, ?_⟩) ?_
   rotate_left 1
   ·(intro w' hSw; (try dsimp only at hSw); go_simp; (try simp only [e1]); try with_reducible rfl)
   simp only [Act.put, qA, qB, qC, qD, qE, qF]
   refine n_tA (v := ?_) 1 rfl (Or.inl ⟨by rfl, ?_⟩) ?_
   rotate_left 1
   ·(intro w' hSw; (try dsimp only at hSw); go_simp; (try simp only [e1]); try with_reducible rfl)
   simp only [Act.put, qA, qB, qC, qD, qE, qF]
   refine n_tA (v := ?_) 2 rfl (Or.inl ⟨by rfl, ?_⟩) ?_
   rotate_left 1
   ·(intro w' hSw; (try dsimp only at hSw); go_simp; (try simp only [e1]); try with_reducible rfl)
   simp only [Act.put, qA, qB, qC, qD, qE, qF]
   refine n_tA (v := ?_) 3 rfl (Or.inl ⟨by rfl, ?_⟩) ?_
   rotate_left 1
   ·(intro w' hSw; (try dsimp only at hSw); go_simp; (try simp only [e1]); try with_reducible rfl)
   simp only [Act.put, qA, qB, qC, qD, qE, qF]
   refine n_from 4 ?_
   intro htk
   iterate 3
    refine n_tB (v := undef) htk rfl (Or.inr ⟨by rfl, rfl⟩) ?_
    clear htk
    intro htk
    simp only [Nat.reduceAdd] at htk
    simp only [Act.put, qA, qB, qC, qD, qE, qF]
   clear htk
   refine n_tA (v := ?_) 7 rfl (Or.inl ⟨by rfl, ?_⟩) ?_
   rotate_left 1
   ·(intro w' hSw; (try dsimp only at hSw); go_simp; try with_reducible rfl)
   simp only [Act.put, qA, qB, qC, qD, qE, qF]
   refine n_tA (v := ?_) 8 rfl (Or.inl ⟨by rfl, ?_⟩) ?_
   rotate_left 1
   ·(intro w' hSw; (try dsimp only at hSw); go_simp; try with_reducible rfl)
   simp only [Act.put, qA, qB, qC, qD, qE, qF]
   refine n_from 9 ?_
   intro htk
   iterate 3
    refine n_tB (v := undef) htk rfl (Or.inr ⟨by rfl, rfl⟩) ?_
    clear htk
    intro htk
    simp only [Nat.reduceAdd] at htk
    simp only [Act.put, qA, qB, qC, qD, qE, qF]
   clear htk
   refine n_tA (v := ?_) 12 rfl (Or.inl ⟨by rfl, ?_⟩) ?_
   rotate_left 1
   ·(intro w' hSw; (try dsimp only at hSw); go_simp; try with_reducible rfl)
   simp only [Act.put, qA, qB, qC, qD, qE, qF]
   refine n_tA (v := ?_) 13 rfl (Or.inl ⟨by rfl, ?_⟩) ?_
   rotate_left 1
   ·(intro w' hSw; (try dsimp only at hSw); go_simp; try with_reducible rfl)
   simp only [Act.put, qA, qB, qC, qD, qE, qF]
   refine n_from 14 ?_
   intro htk
   iterate 3
    refine n_tB (v := undef) htk rfl (Or.inr ⟨by rfl, rfl⟩) ?_
    clear htk
    intro htk
    simp only [Nat.reduceAdd] at htk
    simp only [Act.put, qA, qB, qC, qD, qE, qF]
   clear htk
   refine n_tA (v := ?_) 17 rfl (Or.inl ⟨by rfl, ?_⟩) ?_
   rotate_left 1
   ·(intro w' hSw; (try dsimp only at hSw); go_simp; try with_reducible rfl)
   simp only [Act.put, qA, qB, qC, qD, qE, qF]
   refine n_tA (v := ?_) 18 rfl (Or.inl ⟨by rfl, ?_⟩) ?_
   rotate_left 1
   ·(intro w' hSw; (try dsimp only at hSw); go_simp; try with_reducible rfl)
   simp only [Act.put, qA, qB, qC, qD, qE, qF]
   refine n_tA (v := undef) 19 rfl (Or.inr ⟨by rfl, rfl⟩) ?_
   simp only [Act.put, qA, qB, qC, qD, qE, qF]
   refine n_tA (v := undef) 20 rfl (Or.inr ⟨by rfl, rfl⟩) ?_
   simp only [Act.put, qA, qB, qC, qD, qE, qF]
   refine n_from 22 ?_
   intro htk
   iterate 4
    refine n_tB (v := undef) htk rfl (Or.inr ⟨by rfl, rfl⟩) ?_
    clear htk
    intro htk
    simp only [Nat.reduceAdd] at htk
    simp only [Act.put, qA, qB, qC, qD, qE, qF]
   clear htk
   refine n_step 21 rfl (by kernel_rfl) ?_
   go_wp2_with fail
   refine ⟨fun _ => ?_, fun hSk => ?_⟩
   ·assumption
   replace hSk := hSk (by rfl)
   refine n_tA (v := undef) 26 rfl (Or.inr ⟨by rfl, rfl⟩) ?_
   simp only [Act.put, qA, qB, qC, qD, qE, qF]
   refine n_tA (v := ?_) 27 rfl (Or.inl ⟨by rfl, ?_⟩) ?_
   rotate_left 1
   ·(intro w' hSw; (try dsimp only at hSw); go_simp; try with_reducible rfl)
   simp only [Act.put, qA, qB, qC, qD, qE, qF]
   refine n_step 28 rfl (by kernel_rfl) ?_
   go_wp2_with fail
   refine ⟨fun hx => absurd hx (by decide), fun _ => ?_⟩
   refine n_done (by kernel_rfl) ?_
   go_wp2_with fail
   go_ret
   exact ⟨rfl, hSt.keep hc1.drew nbE, hc1.drew.mono (fun _ _ e => nbE e)⟩
  by_cases h2 : r ≤ 3
  case neg =>
   have hv : v3F (.mk i nm r k sb) s = (false, s) := by simp [v3F, Nd.rep, Nd.kind, h2]
   rw [hv]
   go_enter Tryz.func62, Tryz.ntmps62
   go_wp2_with fail
   generalize hw1 : w.alloc _ = w1
   have hc1 : Chg NoB w w1 := by
    rw [← hw1]
    repeat (first | exact Chg.refl _ _ | apply Chg.alloc | apply Chg.drew)
   have hb1 : Blk w1 (w.heap.size) (ndCells i nm r k (.slice sa sb.length cap)) 56 := by
    rw [← hw1]
    repeat (first | exact Blk.newAt (by first | rfl | (simp; done) | (simp; omega)) | apply Blk.alloc | apply Blk.drew)
   clear hw1
   have c0 : w1.cell? ⟨w.heap.size, 0, none⟩ = some (.int .i64 (i)) := hb1.cell 0
   have c1 : w1.cell? ⟨w.heap.size, 1, none⟩ = some (.string nm) := hb1.cell 1
   have c2 : w1.cell? ⟨w.heap.size, 2, none⟩ = some (.int .i64 (r)) := hb1.cell 2
   have c3 : w1.cell? ⟨w.heap.size, 3, none⟩ = some (.int .i64 (k)) := hb1.cell 3
   have c4 : w1.cell? ⟨w.heap.size, 4, none⟩ = some (.slice sa sb.length cap) := hb1.cell 4
   have cq1 : w1.cell? ⟨c, 0, none⟩ = some (.func (.func 60) #[] #[]) := (hSt.keep hc1 nbE).cell 0
   refine wp_region_n (fun w' => w'.cell? ⟨w.heap.size, 0, none⟩ = some (.int .i64 i) ∧ w'.cell? ⟨w.heap.size, 1, none⟩ = some (.string nm) ∧ w'.cell? ⟨w.heap.size, 2, none⟩ = some (.int .i64 r) ∧ w'.cell? ⟨w.heap.size, 3, none⟩ = some (.int .i64 k) ∧ w'.cell? ⟨w.heap.size, 4, none⟩ = some (.slice sa sb.length cap) ∧ w'.cell? ⟨c, 0, none⟩ = some (.func (.func 60) #[] #[])) [28] (by kernel_rfl) ?_ (fun hSh => ?_)
   ·exact ⟨c0, c1, c2, c3, c4, cq1⟩
   have e1 : decide (1 ≤ r) = true := decide_eq_true (by omega)
   have e2 : decide (r ≤ 3) = false := decide_eq_false (by omega)
   refine n_tA (v := ?_) 0 rfl (Or.inl ⟨by rfl, ?_⟩) ?_
   rotate_left 1
   ·(intro w' hSw; (try dsimp only at hSw); go_simp; (try simp only [e1, e2]); try with_reducible rfl)
   simp only [Act.put, qA, qB, qC, qD, qE, qF]
   refine n_tA (v := ?_) 1 rfl (Or.inl ⟨by rfl, ?_⟩) ?_
   rotate_left 1
   ·(intro w' hSw; (try dsimp only at hSw); go_simp; (try simp only [e1, e2]); try with_reducible rfl)
   simp only [Act.put, qA, qB, qC, qD, qE, qF]
   refine n_tA (v := ?_) 2 rfl (Or.inl ⟨by rfl, ?_⟩) ?_
   rotate_left 1
   ·(intro w' hSw; (try dsimp only at hSw); go_simp; (try simp only [e1, e2]); try with_reducible rfl)
   simp only [Act.put, qA, qB, qC, qD, qE, qF]
   refine n_tA (v := ?_) 3 rfl (Or.inl ⟨by rfl, ?_⟩) ?_
   rotate_left 1
   ·(intro w' hSw; (try dsimp only at hSw); go_simp; (try simp only [e1, e2]); try with_reducible rfl)
   simp only [Act.put, qA, qB, qC, qD, qE, qF]
   refine n_tA (v := ?_) 4 rfl (Or.inl ⟨by rfl, ?_⟩) ?_
   rotate_left 1
   ·(intro w' hSw; (try dsimp only at hSw); go_simp; (try simp only [e1, e2]); try with_reducible rfl)
   simp only [Act.put, qA, qB, qC, qD, qE, qF]
   refine n_tA (v := ?_) 5 rfl (Or.inl ⟨by rfl, ?_⟩) ?_
   rotate_left 1
   ·(intro w' hSw; (try dsimp only at hSw); go_simp; (try simp only [e1, e2]); try with_reducible rfl)
   simp only [Act.put, qA, qB, qC, qD, qE, qF]
   refine n_tA (v := ?_) 6 rfl (Or.inl ⟨by rfl, ?_⟩) ?_
   rotate_left 1
   ·(intro w' hSw; (try dsimp only at hSw); go_simp; (try simp only [e1, e2]); try with_reducible rfl)
   simp only [Act.put, qA, qB, qC, qD, qE, qF]
   refine n_tA (v := ?_) 7 rfl (Or.inl ⟨by rfl, ?_⟩) ?_
   rotate_left 1
   ·(intro w' hSw; (try dsimp only at hSw); go_simp; (try simp only [e1, e2]); try with_reducible rfl)
   simp only [Act.put, qA, qB, qC, qD, qE, qF]
   refine n_tA (v := ?_) 8 rfl (Or.inl ⟨by rfl, ?_⟩) ?_
   rotate_left 1
   ·(intro w' hSw; (try dsimp only at hSw); go_simp; (try simp only [e1, e2]); try with_reducible rfl)
   simp only [Act.put, qA, qB, qC, qD, qE, qF]
   refine n_from 9 ?_
   intro htk
   iterate 3
    refine n_tB (v := undef) htk rfl (Or.inr ⟨by rfl, rfl⟩) ?_
    clear htk
    intro htk
    simp only [Nat.reduceAdd] at htk
    simp only [Act.put, qA, qB, qC, qD, qE, qF]
   clear htk
   refine n_tA (v := ?_) 12 rfl (Or.inl ⟨by rfl, ?_⟩) ?_
   rotate_left 1
   ·(intro w' hSw; (try dsimp only at hSw); go_simp; try with_reducible rfl)
   simp only [Act.put, qA, qB, qC, qD, qE, qF]
   refine n_tA (v := ?_) 13 rfl (Or.inl ⟨by rfl, ?_⟩) ?_
   rotate_left 1
   ·(intro w' hSw; (try dsimp only at hSw); go_simp; try with_reducible rfl)
   simp only [Act.put, qA, qB, qC, qD, qE, qF]
   refine n_from 14 ?_
   intro htk
   iterate 3
    refine n_tB (v := undef) htk rfl (Or.inr ⟨by rfl, rfl⟩) ?_
    clear htk
    intro htk
    simp only [Nat.reduceAdd] at htk
    simp only [Act.put, qA, qB, qC, qD, qE, qF]
   clear htk
   refine n_tA (v := ?_) 17 rfl (Or.inl ⟨by rfl, ?_⟩) ?_
   rotate_left 1
   ·(intro w' hSw; (try dsimp only at hSw); go_simp; try with_reducible rfl)
   simp only [Act.put, qA, qB, qC, qD, qE, qF]
   refine n_tA (v := ?_) 18 rfl (Or.inl ⟨by rfl, ?_⟩) ?_
   rotate_left 1
   ·(intro w' hSw; (try dsimp only at hSw); go_simp; try with_reducible rfl)
   simp only [Act.put, qA, qB, qC, qD, qE, qF]
   refine n_tA (v := undef) 19 rfl (Or.inr ⟨by rfl, rfl⟩) ?_
   simp only [Act.put, qA, qB, qC, qD, qE, qF]
   refine n_tA (v := undef) 20 rfl (Or.inr ⟨by rfl, rfl⟩) ?_
   simp only [Act.put, qA, qB, qC, qD, qE, qF]
   refine n_from 22 ?_
   intro htk
   iterate 4
    refine n_tB (v := undef) htk rfl (Or.inr ⟨by rfl, rfl⟩) ?_
    clear htk
    intro htk
    simp only [Nat.reduceAdd] at htk
    simp only [Act.put, qA, qB, qC, qD, qE, qF]
   clear htk
   refine n_step 21 rfl (by kernel_rfl) ?_
   go_wp2_with fail
   refine ⟨fun _ => ?_, fun hSk => ?_⟩
   ·assumption
   replace hSk := hSk (by rfl)
   refine n_tA (v := undef) 26 rfl (Or.inr ⟨by rfl, rfl⟩) ?_
   simp only [Act.put, qA, qB, qC, qD, qE, qF]
   refine n_tA (v := ?_) 27 rfl (Or.inl ⟨by rfl, ?_⟩) ?_
   rotate_left 1
   ·(intro w' hSw; (try dsimp only at hSw); go_simp; try with_reducible rfl)
   simp only [Act.put, qA, qB, qC, qD, qE, qF]
   refine n_step 28 rfl (by kernel_rfl) ?_
   go_wp2_with fail
   refine ⟨fun hx => absurd hx (by decide), fun _ => ?_⟩
   refine n_done (by kernel_rfl) ?_
   go_wp2_with fail
   go_ret
   exact ⟨rfl, hSt.keep hc1.drew nbE, hc1.drew.mono (fun _ _ e => nbE e)⟩
  by_cases h3 : 0 ≤ k
  case neg =>
   have hv : v3F (.mk i nm r k sb) s = (false, s) := by simp [v3F, Nd.rep, Nd.kind, h3]
   rw [hv]
   go_enter Tryz.func62, Tryz.ntmps62
   go_wp2_with fail
   generalize hw1 : w.alloc _ = w1
   have hc1 : Chg NoB w w1 := by
    rw [← hw1]
    repeat (first | exact Chg.refl _ _ | apply Chg.alloc | apply Chg.drew)
   have hb1 : Blk w1 (w.heap.size) (ndCells i nm r k (.slice sa sb.length cap)) 56 := by
    rw [← hw1]
    repeat (first | exact Blk.newAt (by first | rfl | (simp; done) | (simp; omega)) | apply Blk.alloc | apply Blk.drew)
   clear hw1
   have c0 : w1.cell? ⟨w.heap.size, 0, none⟩ = some (.int .i64 (i)) := hb1.cell 0
   have c1 : w1.cell? ⟨w.heap.size, 1, none⟩ = some (.string nm) := hb1.cell 1
   have c2 : w1.cell? ⟨w.heap.size, 2, none⟩ = some (.int .i64 (r)) := hb1.cell 2
   have c3 : w1.cell? ⟨w.heap.size, 3, none⟩ = some (.int .i64 (k)) := hb1.cell 3
   have c4 : w1.cell? ⟨w.heap.size, 4, none⟩ = some (.slice sa sb.length cap) := hb1.cell 4
   have cq1 : w1.cell? ⟨c, 0, none⟩ = some (.func (.func 60) #[] #[]) := (hSt.keep hc1 nbE).cell 0
   refine wp_region_n (fun w' => w'.cell? ⟨w.heap.size, 0, none⟩ = some (.int .i64 i) ∧ w'.cell? ⟨w.heap.size, 1, none⟩ = some (.string nm) ∧ w'.cell? ⟨w.heap.size, 2, none⟩ = some (.int .i64 r) ∧ w'.cell? ⟨w.heap.size, 3, none⟩ = some (.int .i64 k) ∧ w'.cell? ⟨w.heap.size, 4, none⟩ = some (.slice sa sb.length cap) ∧ w'.cell? ⟨c, 0, none⟩ = some (.func (.func 60) #[] #[])) [28] (by kernel_rfl) ?_ (fun hSh => ?_)
   ·exact ⟨c0, c1, c2, c3, c4, cq1⟩
   have e1 : decide (1 ≤ r) = true := decide_eq_true (by omega)
   have e2 : decide (r ≤ 3) = true := decide_eq_true (by omega)
   have e3 : decide (0 ≤ k) = false := decide_eq_false (by omega)
   refine n_tA (v := ?_) 0 rfl (Or.inl ⟨by rfl, ?_⟩) ?_
   rotate_left 1
   ·(intro w' hSw; (try dsimp only at hSw); go_simp; (try simp only [e1, e2, e3]); try with_reducible rfl)
   simp only [Act.put, qA, qB, qC, qD, qE, qF]
   refine n_tA (v := ?_) 1 rfl (Or.inl ⟨by rfl, ?_⟩) ?_
   rotate_left 1
   ·(intro w' hSw; (try dsimp only at hSw); go_simp; (try simp only [e1, e2, e3]); try with_reducible rfl)
   simp only [Act.put, qA, qB, qC, qD, qE, qF]
   refine n_tA (v := ?_) 2 rfl (Or.inl ⟨by rfl, ?_⟩) ?_
   rotate_left 1
   ·(intro w' hSw; (try dsimp only at hSw); go_simp; (try simp only [e1, e2, e3]); try with_reducible rfl)
   simp only [Act.put, qA, qB, qC, qD, qE, qF]
   refine n_tA (v := ?_) 3 rfl (Or.inl ⟨by rfl, ?_⟩) ?_
   rotate_left 1
   ·(intro w' hSw; (try dsimp only at hSw); go_simp; (try simp only [e1, e2, e3]); try with_reducible rfl)
   simp only [Act.put, qA, qB, qC, qD, qE, qF]
   refine n_tA (v := ?_) 4 rfl (Or.inl ⟨by rfl, ?_⟩) ?_
   rotate_left 1
   ·(intro w' hSw; (try dsimp only at hSw); go_simp; (try simp only [e1, e2, e3]); try with_reducible rfl)
   simp only [Act.put, qA, qB, qC, qD, qE, qF]
   refine n_tA (v := ?_) 5 rfl (Or.inl ⟨by rfl, ?_⟩) ?_
   rotate_left 1
   ·(intro w' hSw; (try dsimp only at hSw); go_simp; (try simp only [e1, e2, e3]); try with_reducible rfl)
   simp only [Act.put, qA, qB, qC, qD, qE, qF]
   refine n_tA (v := ?_) 6 rfl (Or.inl ⟨by rfl, ?_⟩) ?_
   rotate_left 1
   ·(intro w' hSw; (try dsimp only at hSw); go_simp; (try simp only [e1, e2, e3]); try with_reducible rfl)
   simp only [Act.put, qA, qB, qC, qD, qE, qF]
   refine n_tA (v := ?_) 7 rfl (Or.inl ⟨by rfl, ?_⟩) ?_
   rotate_left 1
   ·(intro w' hSw; (try dsimp only at hSw); go_simp; (try simp only [e1, e2, e3]); try with_reducible rfl)
   simp only [Act.put, qA, qB, qC, qD, qE, qF]
   refine n_tA (v := ?_) 8 rfl (Or.inl ⟨by rfl, ?_⟩) ?_
   rotate_left 1
   ·(intro w' hSw; (try dsimp only at hSw); go_simp; (try simp only [e1, e2, e3]); try with_reducible rfl)
   simp only [Act.put, qA, qB, qC, qD, qE, qF]
   refine n_tA (v := ?_) 9 rfl (Or.inl ⟨by rfl, ?_⟩) ?_
   rotate_left 1
   ·(intro w' hSw; (try dsimp only at hSw); go_simp; (try simp only [e1, e2, e3]); try with_reducible rfl)
   simp only [Act.put, qA, qB, qC, qD, qE, qF]
   refine n_tA (v := ?_) 10 rfl (Or.inl ⟨by rfl, ?_⟩) ?_
   rotate_left 1
   ·(intro w' hSw; (try dsimp only at hSw); go_simp; (try simp only [e1, e2, e3]); try with_reducible rfl)
   simp only [Act.put, qA, qB, qC, qD, qE, qF]
   refine n_tA (v := ?_) 11 rfl (Or.inl ⟨by rfl, ?_⟩) ?_
   rotate_left 1
   ·(intro w' hSw; (try dsimp only at hSw); go_simp; (try simp only [e1, e2, e3]); try with_reducible rfl)
   simp only [Act.put, qA, qB, qC, qD, qE, qF]
   refine n_tA (v := ?_) 12 rfl (Or.inl ⟨by rfl, ?_⟩) ?_
   rotate_left 1
   ·(intro w' hSw; (try dsimp only at hSw); go_simp; (try simp only [e1, e2, e3]); try with_reducible rfl)
   simp only [Act.put, qA, qB, qC, qD, qE, qF]
   refine n_tA (v := ?_) 13 rfl (Or.inl ⟨by rfl, ?_⟩) ?_
   rotate_left 1
   ·(intro w' hSw; (try dsimp only at hSw); go_simp; (try simp only [e1, e2, e3]); try with_reducible rfl)
   simp only [Act.put, qA, qB, qC, qD, qE, qF]
   refine n_from 14 ?_
   intro htk
   iterate 3
    refine n_tB (v := undef) htk rfl (Or.inr ⟨by rfl, rfl⟩) ?_
    clear htk
    intro htk
    simp only [Nat.reduceAdd] at htk
    simp only [Act.put, qA, qB, qC, qD, qE, qF]
   clear htk
   refine n_tA (v := ?_) 17 rfl (Or.inl ⟨by rfl, ?_⟩) ?_
   rotate_left 1
   ·(intro w' hSw; (try dsimp only at hSw); go_simp; try with_reducible rfl)
   simp only [Act.put, qA, qB, qC, qD, qE, qF]
   refine n_tA (v := ?_) 18 rfl (Or.inl ⟨by rfl, ?_⟩) ?_
   rotate_left 1
   ·(intro w' hSw; (try dsimp only at hSw); go_simp; try with_reducible rfl)
   simp only [Act.put, qA, qB, qC, qD, qE, qF]
   refine n_tA (v := undef) 19 rfl (Or.inr ⟨by rfl, rfl⟩) ?_
   simp only [Act.put, qA, qB, qC, qD, qE, qF]
   refine n_tA (v := undef) 20 rfl (Or.inr ⟨by rfl, rfl⟩) ?_
   simp only [Act.put, qA, qB, qC, qD, qE, qF]
   refine n_from 22 ?_
   intro htk
   iterate 4
    refine n_tB (v := undef) htk rfl (Or.inr ⟨by rfl, rfl⟩) ?_
    clear htk
    intro htk
    simp only [Nat.reduceAdd] at htk
    simp only [Act.put, qA, qB, qC, qD, qE, qF]
   clear htk
   refine n_step 21 rfl (by kernel_rfl) ?_
   go_wp2_with fail
   refine ⟨fun _ => ?_, fun hSk => ?_⟩
   ·assumption
   replace hSk := hSk (by rfl)
   refine n_tA (v := undef) 26 rfl (Or.inr ⟨by rfl, rfl⟩) ?_
   simp only [Act.put, qA, qB, qC, qD, qE, qF]
   refine n_tA (v := ?_) 27 rfl (Or.inl ⟨by rfl, ?_⟩) ?_
   rotate_left 1
   ·(intro w' hSw; (try dsimp only at hSw); go_simp; try with_reducible rfl)
   simp only [Act.put, qA, qB, qC, qD, qE, qF]
   refine n_step 28 rfl (by kernel_rfl) ?_
   go_wp2_with fail
   refine ⟨fun hx => absurd hx (by decide), fun _ => ?_⟩
   refine n_done (by kernel_rfl) ?_
   go_wp2_with fail
   go_ret
   exact ⟨rfl, hSt.keep hc1.drew nbE, hc1.drew.mono (fun _ _ e => nbE e)⟩
  by_cases h4 : k ≤ 5
  case neg =>
   have hv : v3F (.mk i nm r k sb) s = (false, s) := by simp [v3F, Nd.rep, Nd.kind, h4]
   rw [hv]
   go_enter Tryz.func62, Tryz.ntmps62
   go_wp2_with fail
   generalize hw1 : w.alloc _ = w1
   have hc1 : Chg NoB w w1 := by
    rw [← hw1]
    repeat (first | exact Chg.refl _ _ | apply Chg.alloc | apply Chg.drew)
   have hb1 : Blk w1 (w.heap.size) (ndCells i nm r k (.slice sa sb.length cap)) 56 := by
    rw [← hw1]
    repeat (first | exact Blk.newAt (by first | rfl | (simp; done) | (simp; omega)) | apply Blk.alloc | apply Blk.drew)
   clear hw1
   have c0 : w1.cell? ⟨w.heap.size, 0, none⟩ = some (.int .i64 (i)) := hb1.cell 0
   have c1 : w1.cell? ⟨w.heap.size, 1, none⟩ = some (.string nm) := hb1.cell 1
   have c2 : w1.cell? ⟨w.heap.size, 2, none⟩ = some (.int .i64 (r)) := hb1.cell 2
   have c3 : w1.cell? ⟨w.heap.size, 3, none⟩ = some (.int .i64 (k)) := hb1.cell 3
   have c4 : w1.cell? ⟨w.heap.size, 4, none⟩ = some (.slice sa sb.length cap) := hb1.cell 4
   have cq1 : w1.cell? ⟨c, 0, none⟩ = some (.func (.func 60) #[] #[]) := (hSt.keep hc1 nbE).cell 0
   refine wp_region_n (fun w' => w'.cell? ⟨w.heap.size, 0, none⟩ = some (.int .i64 i) ∧ w'.cell? ⟨w.heap.size, 1, none⟩ = some (.string nm) ∧ w'.cell? ⟨w.heap.size, 2, none⟩ = some (.int .i64 r) ∧ w'.cell? ⟨w.heap.size, 3, none⟩ = some (.int .i64 k) ∧ w'.cell? ⟨w.heap.size, 4, none⟩ = some (.slice sa sb.length cap) ∧ w'.cell? ⟨c, 0, none⟩ = some (.func (.func 60) #[] #[])) [28] (by kernel_rfl) ?_ (fun hSh => ?_)
   ·exact ⟨c0, c1, c2, c3, c4, cq1⟩
   have e1 : decide (1 ≤ r) = true := decide_eq_true (by omega)
   have e2 : decide (r ≤ 3) = true := decide_eq_true (by omega)
   have e3 : decide (0 ≤ k) = true := decide_eq_true (by omega)
   have e4 : decide (k ≤ 5) = false := decide_eq_false (by omega)
   refine n_tA (v := ?_) 0 rfl (Or.inl ⟨by rfl, ?_⟩) ?_
   rotate_left 1
   ·(intro w' hSw; (try dsimp only at hSw); go_simp; (try simp only [e1, e2, e3, e4]); try with_reducible rfl)
   simp only [Act.put, qA, qB, qC, qD, qE, qF]
   refine n_tA (v := ?_) 1 rfl (Or.inl ⟨by rfl, ?_⟩) ?_
   rotate_left 1
   ·(intro w' hSw; (try dsimp only at hSw); go_simp; (try simp only [e1, e2, e3, e4]); try with_reducible rfl)
   simp only [Act.put, qA, qB, qC, qD, qE, qF]
   refine n_tA (v := ?_) 2 rfl (Or.inl ⟨by rfl, ?_⟩) ?_
   rotate_left 1
   ·(intro w' hSw; (try dsimp only at hSw); go_simp; (try simp only [e1, e2, e3, e4]); try with_reducible rfl)
   simp only [Act.put, qA, qB, qC, qD, qE, qF]
   refine n_tA (v := ?_) 3 rfl (Or.inl ⟨by rfl, ?_⟩) ?_
   rotate_left 1
   ·(intro w' hSw; (try dsimp only at hSw); go_simp; (try simp only [e1, e2, e3, e4]); try with_reducible rfl)
   simp only [Act.put, qA, qB, qC, qD, qE, qF]
   refine n_tA (v := ?_) 4 rfl (Or.inl ⟨by rfl, ?_⟩) ?_
   rotate_left 1
   ·(intro w' hSw; (try dsimp only at hSw); go_simp; (try simp only [e1, e2, e3, e4]); try with_reducible rfl)
   simp only [Act.put, qA, qB, qC, qD, qE, qF]
   refine n_tA (v := ?_) 5 rfl (Or.inl ⟨by rfl, ?_⟩) ?_
   rotate_left 1
   ·(intro w' hSw; (try dsimp only at hSw); go_simp; (try simp only [e1, e2, e3, e4]); try with_reducible rfl)
   simp only [Act.put, qA, qB, qC, qD, qE, qF]
   refine n_tA (v := ?_) 6 rfl (Or.inl ⟨by rfl, ?_⟩) ?_
   rotate_left 1
   ·(intro w' hSw; (try dsimp only at hSw); go_simp; (try simp only [e1, e2, e3, e4]); try with_reducible rfl)
   simp only [Act.put, qA, qB, qC, qD, qE, qF]
   refine n_tA (v := ?_) 7 rfl (Or.inl ⟨by rfl, ?_⟩) ?_
   rotate_left 1
   ·(intro w' hSw; (try dsimp only at hSw); go_simp; (try simp only [e1, e2, e3, e4]); try with_reducible rfl)
   simp only [Act.put, qA, qB, qC, qD, qE, qF]
   refine n_tA (v := ?_) 8 rfl (Or.inl ⟨by rfl, ?_⟩) ?_
   rotate_left 1
   ·(intro w' hSw; (try dsimp only at hSw); go_simp; (try simp only [e1, e2, e3, e4]); try with_reducible rfl)
   simp only [Act.put, qA, qB, qC, qD, qE, qF]
   refine n_tA (v := ?_) 9 rfl (Or.inl ⟨by rfl, ?_⟩) ?_
   rotate_left 1
   ·(intro w' hSw; (try dsimp only at hSw); go_simp; (try simp only [e1, e2, e3, e4]); try with_reducible rfl)
   simp only [Act.put, qA, qB, qC, qD, qE, qF]
   refine n_tA (v := ?_) 10 rfl (Or.inl ⟨by rfl, ?_⟩) ?_
   rotate_left 1
   ·(intro w' hSw; (try dsimp only at hSw); go_simp; (try simp only [e1, e2, e3, e4]); try with_reducible rfl)
   simp only [Act.put, qA, qB, qC, qD, qE, qF]
   refine n_tA (v := ?_) 11 rfl (Or.inl ⟨by rfl, ?_⟩) ?_
   rotate_left 1
   ·(intro w' hSw; (try dsimp only at hSw); go_simp; (try simp only [e1, e2, e3, e4]); try with_reducible rfl)
   simp only [Act.put, qA, qB, qC, qD, qE, qF]
   refine n_tA (v := ?_) 12 rfl (Or.inl ⟨by rfl, ?_⟩) ?_
   rotate_left 1
   ·(intro w' hSw; (try dsimp only at hSw); go_simp; (try simp only [e1, e2, e3, e4]); try with_reducible rfl)
   simp only [Act.put, qA, qB, qC, qD, qE, qF]
   refine n_tA (v := ?_) 13 rfl (Or.inl ⟨by rfl, ?_⟩) ?_
   rotate_left 1
   ·(intro w' hSw; (try dsimp only at hSw); go_simp; (try simp only [e1, e2, e3, e4]); try with_reducible rfl)
   simp only [Act.put, qA, qB, qC, qD, qE, qF]
   refine n_tA (v := ?_) 14 rfl (Or.inl ⟨by rfl, ?_⟩) ?_
   rotate_left 1
   ·(intro w' hSw; (try dsimp only at hSw); go_simp; (try simp only [e1, e2, e3, e4]); try with_reducible rfl)
   simp only [Act.put, qA, qB, qC, qD, qE, qF]
   refine n_tA (v := ?_) 15 rfl (Or.inl ⟨by rfl, ?_⟩) ?_
   rotate_left 1
   ·(intro w' hSw; (try dsimp only at hSw); go_simp; (try simp only [e1, e2, e3, e4]); try with_reducible rfl)
   simp only [Act.put, qA, qB, qC, qD, qE, qF]
   refine n_tA (v := ?_) 16 rfl (Or.inl ⟨by rfl, ?_⟩) ?_
   rotate_left 1
   ·(intro w' hSw; (try dsimp only at hSw); go_simp; (try simp only [e1, e2, e3, e4]); try with_reducible rfl)
   simp only [Act.put, qA, qB, qC, qD, qE, qF]
   refine n_tA (v := ?_) 17 rfl (Or.inl ⟨by rfl, ?_⟩) ?_
   rotate_left 1
   ·(intro w' hSw; (try dsimp only at hSw); go_simp; (try simp only [e1, e2, e3, e4]); try with_reducible rfl)
   simp only [Act.put, qA, qB, qC, qD, qE, qF]
   refine n_tA (v := ?_) 18 rfl (Or.inl ⟨by rfl, ?_⟩) ?_
   rotate_left 1
   ·(intro w' hSw; (try dsimp only at hSw); go_simp; (try simp only [e1, e2, e3, e4]); try with_reducible rfl)
   simp only [Act.put, qA, qB, qC, qD, qE, qF]
   refine n_tA (v := undef) 19 rfl (Or.inr ⟨by rfl, rfl⟩) ?_
   simp only [Act.put, qA, qB, qC, qD, qE, qF]
   refine n_tA (v := undef) 20 rfl (Or.inr ⟨by rfl, rfl⟩) ?_
   simp only [Act.put, qA, qB, qC, qD, qE, qF]
   refine n_from 22 ?_
   intro htk
   iterate 4
    refine n_tB (v := undef) htk rfl (Or.inr ⟨by rfl, rfl⟩) ?_
    clear htk
    intro htk
    simp only [Nat.reduceAdd] at htk
    simp only [Act.put, qA, qB, qC, qD, qE, qF]
   clear htk
   refine n_step 21 rfl (by kernel_rfl) ?_
   go_wp2_with fail
   refine ⟨fun _ => ?_, fun hSk => ?_⟩
   ·assumption
   replace hSk := hSk (by rfl)
   refine n_tA (v := undef) 26 rfl (Or.inr ⟨by rfl, rfl⟩) ?_
   simp only [Act.put, qA, qB, qC, qD, qE, qF]
   refine n_tA (v := ?_) 27 rfl (Or.inl ⟨by rfl, ?_⟩) ?_
   rotate_left 1
   ·(intro w' hSw; (try dsimp only at hSw); go_simp; try with_reducible rfl)
   simp only [Act.put, qA, qB, qC, qD, qE, qF]
   refine n_step 28 rfl (by kernel_rfl) ?_
   go_wp2_with fail
   refine ⟨fun hx => absurd hx (by decide), fun _ => ?_⟩
   refine n_done (by kernel_rfl) ?_
   go_wp2_with fail
   go_ret
   exact ⟨rfl, hSt.keep hc1.drew nbE, hc1.drew.mono (fun _ _ e => nbE e)⟩
  have hv : v3F (.mk i nm r k sb) s = ((!decide (k = 0)) == decide ((sb.length : Int) = 0), s) := by
   have he : sb.isEmpty = decide ((sb.length : Int) = 0) := by cases sb <;> simp <;> omega
   simp only [v3F, Nd.rep, Nd.kind, Nd.sub, h1, h2, h3, h4, decide_true, Bool.true_and, he]
   rfl
  rw [hv]
  go_enter Tryz.func62, Tryz.ntmps62
  go_wp2_with fail
  generalize hw1 : w.alloc _ = w1
  have hc1 : Chg NoB w w1 := by
   rw [← hw1]
   repeat (first | exact Chg.refl _ _ | apply Chg.alloc | apply Chg.drew)
  have hb1 : Blk w1 (w.heap.size) (ndCells i nm r k (.slice sa sb.length cap)) 56 := by
   rw [← hw1]
   repeat (first | exact Blk.newAt (by first | rfl | (simp; done) | (simp; omega)) | apply Blk.alloc | apply Blk.drew)
  clear hw1
  have c0 : w1.cell? ⟨w.heap.size, 0, none⟩ = some (.int .i64 (i)) := hb1.cell 0
  have c1 : w1.cell? ⟨w.heap.size, 1, none⟩ = some (.string nm) := hb1.cell 1
  have c2 : w1.cell? ⟨w.heap.size, 2, none⟩ = some (.int .i64 (r)) := hb1.cell 2
  have c3 : w1.cell? ⟨w.heap.size, 3, none⟩ = some (.int .i64 (k)) := hb1.cell 3
  have c4 : w1.cell? ⟨w.heap.size, 4, none⟩ = some (.slice sa sb.length cap) := hb1.cell 4
  have cq1 : w1.cell? ⟨c, 0, none⟩ = some (.func (.func 60) #[] #[]) := (hSt.keep hc1 nbE).cell 0
  refine wp_region_n (fun w' => w'.cell? ⟨w.heap.size, 0, none⟩ = some (.int .i64 i) ∧ w'.cell? ⟨w.heap.size, 1, none⟩ = some (.string nm) ∧ w'.cell? ⟨w.heap.size, 2, none⟩ = some (.int .i64 r) ∧ w'.cell? ⟨w.heap.size, 3, none⟩ = some (.int .i64 k) ∧ w'.cell? ⟨w.heap.size, 4, none⟩ = some (.slice sa sb.length cap) ∧ w'.cell? ⟨c, 0, none⟩ = some (.func (.func 60) #[] #[])) [28] (by kernel_rfl) ?_ (fun hSh => ?_)
  ·exact ⟨c0, c1, c2, c3, c4, cq1⟩
  have e1 : decide (1 ≤ r) = true := decide_eq_true (by omega)
  have e2 : decide (r ≤ 3) = true := decide_eq_true (by omega)
  have e3 : decide (0 ≤ k) = true := decide_eq_true (by omega)
  have e4 : decide (k ≤ 5) = true := decide_eq_true (by omega)
  refine n_tA (v := ?_) 0 rfl (Or.inl ⟨by rfl, ?_⟩) ?_
  rotate_left 1
  ·(intro w' hSw; (try dsimp only at hSw); go_simp; (try simp only [e1, e2, e3, e4]); try with_reducible rfl)
  simp only [Act.put, qA, qB, qC, qD, qE, qF]
  refine n_tA (v := ?_) 1 rfl (Or.inl ⟨by rfl, ?_⟩) ?_
  rotate_left 1
  ·(intro w' hSw; (try dsimp only at hSw); go_simp; (try simp only [e1, e2, e3, e4]); try with_reducible rfl)
  simp only [Act.put, qA, qB, qC, qD, qE, qF]
  refine n_tA (v := ?_) 2 rfl (Or.inl ⟨by rfl, ?_⟩) ?_
  rotate_left 1
  ·(intro w' hSw; (try dsimp only at hSw); go_simp; (try simp only [e1, e2, e3, e4]); try with_reducible rfl)
  simp only [Act.put, qA, qB, qC, qD, qE, qF]
  refine n_tA (v := ?_) 3 rfl (Or.inl ⟨by rfl, ?_⟩) ?_
  rotate_left 1
  ·(intro w' hSw; (try dsimp only at hSw); go_simp; (try simp only [e1, e2, e3, e4]); try with_reducible rfl)
  simp only [Act.put, qA, qB, qC, qD, qE, qF]
  refine n_tA (v := ?_) 4 rfl (Or.inl ⟨by rfl, ?_⟩) ?_
  rotate_left 1
  ·(intro w' hSw; (try dsimp only at hSw); go_simp; (try simp only [e1, e2, e3, e4]); try with_reducible rfl)
  simp only [Act.put, qA, qB, qC, qD, qE, qF]
  refine n_tA (v := ?_) 5 rfl (Or.inl ⟨by rfl, ?_⟩) ?_
  rotate_left 1
  ·(intro w' hSw; (try dsimp only at hSw); go_simp; (try simp only [e1, e2, e3, e4]); try with_reducible rfl)
  simp only [Act.put, qA, qB, qC, qD, qE, qF]
  refine n_tA (v := ?_) 6 rfl (Or.inl ⟨by rfl, ?_⟩) ?_
  rotate_left 1
  ·(intro w' hSw; (try dsimp only at hSw); go_simp; (try simp only [e1, e2, e3, e4]); try with_reducible rfl)
  simp only [Act.put, qA, qB, qC, qD, qE, qF]
  refine n_tA (v := ?_) 7 rfl (Or.inl ⟨by rfl, ?_⟩) ?_
  rotate_left 1
  ·(intro w' hSw; (try dsimp only at hSw); go_simp; (try simp only [e1, e2, e3, e4]); try with_reducible rfl)
  simp only [Act.put, qA, qB, qC, qD, qE, qF]
  refine n_tA (v := ?_) 8 rfl (Or.inl ⟨by rfl, ?_⟩) ?_
  rotate_left 1
  ·(intro w' hSw; (try dsimp only at hSw); go_simp; (try simp only [e1, e2, e3, e4]); try with_reducible rfl)
  simp only [Act.put, qA, qB, qC, qD, qE, qF]
  refine n_tA (v := ?_) 9 rfl (Or.inl ⟨by rfl, ?_⟩) ?_
  rotate_left 1
  ·(intro w' hSw; (try dsimp only at hSw); go_simp; (try simp only [e1, e2, e3, e4]); try with_reducible rfl)
  simp only [Act.put, qA, qB, qC, qD, qE, qF]
  refine n_tA (v := ?_) 10 rfl (Or.inl ⟨by rfl, ?_⟩) ?_
  rotate_left 1
  ·(intro w' hSw; (try dsimp only at hSw); go_simp; (try simp only [e1, e2, e3, e4]); try with_reducible rfl)
  simp only [Act.put, qA, qB, qC, qD, qE, qF]
  refine n_tA (v := ?_) 11 rfl (Or.inl ⟨by rfl, ?_⟩) ?_
  rotate_left 1
  ·(intro w' hSw; (try dsimp only at hSw); go_simp; (try simp only [e1, e2, e3, e4]); try with_reducible rfl)
  simp only [Act.put, qA, qB, qC, qD, qE, qF]
  refine n_tA (v := ?_) 12 rfl (Or.inl ⟨by rfl, ?_⟩) ?_
  rotate_left 1
  ·(intro w' hSw; (try dsimp only at hSw); go_simp; (try simp only [e1, e2, e3, e4]); try with_reducible rfl)
  simp only [Act.put, qA, qB, qC, qD, qE, qF]
  refine n_tA (v := ?_) 13 rfl (Or.inl ⟨by rfl, ?_⟩) ?_
  rotate_left 1
  ·(intro w' hSw; (try dsimp only at hSw); go_simp; (try simp only [e1, e2, e3, e4]); try with_reducible rfl)
  simp only [Act.put, qA, qB, qC, qD, qE, qF]
  refine n_tA (v := ?_) 14 rfl (Or.inl ⟨by rfl, ?_⟩) ?_
  rotate_left 1
  ·(intro w' hSw; (try dsimp only at hSw); go_simp; (try simp only [e1, e2, e3, e4]); try with_reducible rfl)
  simp only [Act.put, qA, qB, qC, qD, qE, qF]
  refine n_tA (v := ?_) 15 rfl (Or.inl ⟨by rfl, ?_⟩) ?_
  rotate_left 1
  ·(intro w' hSw; (try dsimp only at hSw); go_simp; (try simp only [e1, e2, e3, e4]); try with_reducible rfl)
  simp only [Act.put, qA, qB, qC, qD, qE, qF]
  refine n_tA (v := ?_) 16 rfl (Or.inl ⟨by rfl, ?_⟩) ?_
  rotate_left 1
  ·(intro w' hSw; (try dsimp only at hSw); go_simp; (try simp only [e1, e2, e3, e4]); try with_reducible rfl)
  simp only [Act.put, qA, qB, qC, qD, qE, qF]
  refine n_tA (v := ?_) 17 rfl (Or.inl ⟨by rfl, ?_⟩) ?_
  rotate_left 1
  ·(intro w' hSw; (try dsimp only at hSw); go_simp; (try simp only [e1, e2, e3, e4]); try with_reducible rfl)
  simp only [Act.put, qA, qB, qC, qD, qE, qF]
  refine n_tA (v := ?_) 18 rfl (Or.inl ⟨by rfl, ?_⟩) ?_
  rotate_left 1
  ·(intro w' hSw; (try dsimp only at hSw); go_simp; (try simp only [e1, e2, e3, e4]); try with_reducible rfl)
  simp only [Act.put, qA, qB, qC, qD, qE, qF]
  refine n_tA (v := ?_) 19 rfl (Or.inl ⟨by rfl, ?_⟩) ?_
  rotate_left 1
  ·(intro w' hSw; (try dsimp only at hSw); go_simp; (try simp only [e1, e2, e3, e4]); try with_reducible rfl)
  simp only [Act.put, qA, qB, qC, qD, qE, qF]
  refine n_tA (v := ?_) 20 rfl (Or.inl ⟨by rfl, ?_⟩) ?_
  rotate_left 1
  ·(intro w' hSw; (try dsimp only at hSw); go_simp; (try simp only [e1, e2, e3, e4]); try with_reducible rfl)
  simp only [Act.put, qA, qB, qC, qD, qE, qF]
  refine n_tA (v := ?_) 22 rfl (Or.inl ⟨by rfl, ?_⟩) ?_
  rotate_left 1
  ·(intro w' hSw; (try dsimp only at hSw); go_simp; (try simp only [e1, e2, e3, e4]); try with_reducible rfl)
  simp only [Act.put, qA, qB, qC, qD, qE, qF]
  refine n_tA (v := ?_) 23 rfl (Or.inl ⟨by rfl, ?_⟩) ?_
  rotate_left 1
  ·(intro w' hSw; (try dsimp only at hSw); go_simp; (try simp only [e1, e2, e3, e4]); try with_reducible rfl)
  simp only [Act.put, qA, qB, qC, qD, qE, qF]
  refine n_tA (v := ?_) 24 rfl (Or.inl ⟨by rfl, ?_⟩) ?_
  rotate_left 1
  ·(intro w' hSw; (try dsimp only at hSw); go_simp; (try simp only [e1, e2, e3, e4]); try with_reducible rfl)
  simp only [Act.put, qA, qB, qC, qD, qE, qF]
  refine n_tA (v := ?_) 25 rfl (Or.inl ⟨by rfl, ?_⟩) ?_
  rotate_left 1
  ·(intro w' hSw; (try dsimp only at hSw); go_simp; (try simp only [e1, e2, e3, e4]); try with_reducible rfl)
  simp only [Act.put, qA, qB, qC, qD, qE, qF]
  refine n_step 21 rfl (by kernel_rfl) ?_
  go_wp2_with fail
  refine (v2_any (.mk i nm r k sb) w1.drew S _ hok (hr.chg0 hc1.drew)).mono ?_
  rintro en w2 ⟨rfl, hc2⟩
  go_wp2_with fail
  have hsz1 := hb1.lt
  refine ⟨fun _ => ?_, fun hSk => ?_⟩
  ·(repeat' refine And.intro ?_ ?_) <;> exact (hc2.cell (by first | assumption | (simp; done) | (simp; omega) | omega) nbE).trans (by assumption)
  replace hSk := hSk (by rfl)
  refine n_tA (v := ?_) 26 rfl (Or.inl ⟨by rfl, ?_⟩) ?_
  rotate_left 1
  ·(intro w' hSw; (try dsimp only at hSw); go_simp; (try simp only [e1]); try with_reducible rfl)
  simp only [Act.put, qA, qB, qC, qD, qE, qF]
  refine n_tA (v := ?_) 27 rfl (Or.inl ⟨by rfl, ?_⟩) ?_
  rotate_left 1
  ·(intro w' hSw; (try dsimp only at hSw); go_simp; (try simp only [e1]); try with_reducible rfl)
  simp only [Act.put, qA, qB, qC, qD, qE, qF]
  refine n_step 28 rfl (by kernel_rfl) ?_
  go_wp2_with fail
  refine ⟨fun hx => absurd hx (by decide), fun _ => ?_⟩
  refine n_done (by kernel_rfl) ?_
  go_wp2_with fail
  go_ret
  exact ⟨rfl, hSt.keep (hc1.drew.tr hc2) nbE, (hc1.drew.tr hc2).mono (fun _ _ e => nbE e)⟩
end Go.Proofs.YtnmhkafpgohefaaGreatDoor
