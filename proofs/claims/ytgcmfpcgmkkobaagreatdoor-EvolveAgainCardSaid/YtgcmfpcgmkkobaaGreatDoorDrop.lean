/-
 evolve.drop: a node, and groups that have nothing left, taken out of a tree in place.
-/
import Derived.Test.YtgcmfpcgmkkobaaGreatDoorDelF
set_option linter.unusedVariables false
set_option linter.unusedSimpArgs false
namespace Go.Proofs.YtgcmfpcgmkkobaaGreatDoor
open Go.RowKit

mutual
def dropN (id : Int) : Nd → Nd
 | .mk i n r k s => .mk i n r k ((dropL id s).filter fun x => !delB id x)
def dropL (id : Int) : List Nd → List Nd
 | [] => []
 | n :: ns => dropN id n :: dropL id ns
end
theorem dropL_eq (id : Int) : ∀ l : List Nd, dropL id l = l.map (dropN id)
 | [] => rfl
 | n :: ns => by simp [dropL, dropL_eq id ns]
/-- It is another node now. -/
def RetUpd (B b o : Nat) (n : Nd) (F : List Nat) (n' : Nd) (w : World) (en : Ending) (w' : World) : Prop := en = .returned (.tuple #[]) ∧ ∃ F', Upd w B b o n F w' n' F'
def DropRel (id : Int) (B b o : Nat) (i : Int) (nm : ByteArray) (r k : Int) (s : List Nd) (F : List Nat) (w : World) (c : Nat) (vi : Value) (wr : World) : Prop :=
 ∃ (t : Nat) (F' : List Nat), t ≤ s.length ∧ vi = .int .i64 (t : Nat) ∧ Upd w B b o (.mk i nm r k s) F wr (.mk i nm r k (dropL id (s.take t) ++ s.drop t)) F' ∧ Blk wr c [.int .i64 id] 3

set_option maxHeartbeats 2000000 in
set_option maxRecDepth 100000 in
theorem drop_any (B : Nat) (id : Int) : ∀ (m : Nat) (b o : Nat) (n : Nd) (F : List Nat) (w : World), n.weigh ≤ m → PtN w B b o n F →
  Calls Tryz.prog 55 #[.pointer (some ⟨b, o, none⟩), .int .i64 id] w (RetUpd B b o n F (dropN id n) w) := by
 intro m
 induction m with
 | zero => intro b o n F w hm; cases n; simp [Nd.weigh] at hm
 | succ m ih =>
  intro b o n F w hm hp
  have Hih := Lib.hid ih
  clear ih
  obtain ⟨i, nm, r, k, s⟩ := n
  obtain ⟨v, htl, _, _, _, _, c4, _⟩ := hp.form
  obtain ⟨a, c, rfl, hlen, hcap⟩ := htl.form
  unfold maxLen at hcap
  simp only [Nd.weigh] at hm
  have hbl := lt_of_cell c4
  have hFl := Lib.hid hp.lt.2
  clear htl
  go_enter Tryz.func55, Tryz.ntmps55
  go_wp2_with fail
  generalize hw1 : World.alloc w _ = w1
  have hc1 : Chg NoB w w1 := by
   rw [← hw1]
   repeat (first | exact Chg.refl _ _ | apply Chg.alloc | apply Chg.drew)
  have hx1 : Blk w1 (w.heap.size) ([.int .i64 id]) 3 := by
   rw [← hw1]
   repeat (first | exact Blk.newAt (by first | rfl | (simp; done) | (simp; omega)) | apply Blk.alloc | apply Blk.drew)
  clear hw1
  have hp1 := hp.keep0 hc1
  have hbx : b ≠ w.heap.size := by have h1 : b < w.heap.size := hbl; omega
  have hxF : w.heap.size ∉ F := fun e => by have := (hFl.out _ e).2; omega
  have hx1l := hx1.lt
  go_loopw [10] (fun vi wr => DropRel id B b o i nm r k s F w1 w.heap.size vi wr) (fun vi _ => s.length - (intOf vi).toNat)
  case atStart => exact ⟨0, F, Nat.zero_le _, rfl, by simpa [dropL] using hp1.refl, hx1⟩
  case round =>
   obtain ⟨t, Fr, ht, rfl, hu, hx⟩ := hrel
   have Hu := Lib.hid hu
   have hxFr : w.heap.size ∉ Fr := fun e => by
    rcases hu.sub _ e with y | y
    ·exact hxF y
    ·omega
   have hxl := hx.lt
   by_cases hlt : t < s.length
   ·have hltI : (t : Int) < (s.length : Int) := by omega
    have hst : s[t]? = some s[t] := List.getElem?_eq_getElem hlt
    have hmem : s[t] ∈ s := List.getElem_mem hlt
    have hwj := Nd.weigh_mem hmem
    have hj : (dropL id (s.take t) ++ s.drop t)[t]? = some s[t] := by
     have hl : (dropL id (s.take t)).length = t := by rw [dropL_eq, List.length_map, List.length_take]; omega
     rw [List.getElem?_append_right (by omega), hl, Nat.sub_self, List.getElem?_drop, Nat.add_zero, hst]
    have hset : (dropL id (s.take t) ++ s.drop t).set t (dropN id s[t]) = dropL id (s.take (t + 1)) ++ s.drop (t + 1) := by
     have hl : (dropL id (s.take t)).length = t := by rw [dropL_eq, List.length_map, List.length_take]; omega
     rw [List.set_append_right _ _ (by omega), hl, Nat.sub_self, List.drop_eq_getElem_cons hlt, List.set_cons_zero, List.take_succ_eq_append_getElem hlt, dropL_eq, dropL_eq, List.map_append, List.append_assoc]
     rfl
    have hlen2 : (dropL id (s.take t) ++ s.drop t).length = s.length := by rw [List.length_append, dropL_eq, List.length_map, List.length_take, List.length_drop]; omega
    generalize s[t] = q at hj hmem hwj hset hst
    obtain ⟨rb, cap, Fc, z4, h1, h2, h3, h4, hpc, hup⟩ := hu.pt'.child hj
    rw [hlen2] at z4 h1
    unfold maxLen at h2
    have Hup := Lib.hid hup
    have Hset := Lib.hid hset
    clear hup hset hj hst hu hlen2
    have x0 : wr.cell? ⟨w.heap.size, 0, none⟩ = some (.int .i64 id) := hx.cell 0
    go_wp2_with fail
    refine wp_region_n (fun w' => w'.cell? ⟨b, o + 4, none⟩ = some (.slice (some ⟨rb, 0, none⟩) s.length cap) ∧ w'.cell? ⟨w.heap.size, 0, none⟩ = some (.int .i64 id)) [] (by kernel_rfl) ?_ (fun hSh => ?_)
    ·exact ⟨z4, x0⟩
    refine n_take (v := ?_) 0 rfl (Or.inl ⟨by rfl, ?_⟩) (by kernel_rfl) (fun _ _ _ h => h) (by assumption) ?_
    rotate_left 1
    ·(intro w' hSw; (try dsimp only at hSw); go_simp; try with_reducible rfl)
    simp only [Act.put, List.getElem_toArray, List.getElem_cons_zero, List.getElem_cons_succ, List.setIfInBounds_toArray, List.set_cons_zero, List.set_cons_succ]
    refine n_take (v := ?_) 1 rfl (Or.inl ⟨by rfl, ?_⟩) (by kernel_rfl) (fun _ _ _ h => h) (by assumption) ?_
    rotate_left 1
    ·(intro w' hSw; (try dsimp only at hSw); go_simp; try with_reducible rfl)
    simp only [Act.put, List.getElem_toArray, List.getElem_cons_zero, List.getElem_cons_succ, List.setIfInBounds_toArray, List.set_cons_zero, List.set_cons_succ]
    refine n_take (v := ?_) 2 rfl (Or.inl ⟨by rfl, ?_⟩) (by kernel_rfl) (fun _ _ _ h => h) (by assumption) ?_
    rotate_left 1
    ·(intro w' hSw; (try dsimp only at hSw); go_simp; try with_reducible rfl)
    simp only [Act.put, List.getElem_toArray, List.getElem_cons_zero, List.getElem_cons_succ, List.setIfInBounds_toArray, List.set_cons_zero, List.set_cons_succ]
    refine n_take (v := ?_) 3 rfl (Or.inl ⟨by rfl, ?_⟩) (by kernel_rfl) (fun _ _ _ h => h) (by assumption) ?_
    rotate_left 1
    ·(intro w' hSw; (try dsimp only at hSw); go_simp; try with_reducible rfl)
    simp only [Act.put, List.getElem_toArray, List.getElem_cons_zero, List.getElem_cons_succ, List.setIfInBounds_toArray, List.set_cons_zero, List.set_cons_succ]
    refine n_take (v := ?_) 4 rfl (Or.inl ⟨by rfl, ?_⟩) (by kernel_rfl) (fun _ _ _ h => h) (by assumption) ?_
    rotate_left 1
    ·(intro w' hSw; (try dsimp only at hSw); go_simp; try with_reducible rfl)
    simp only [Act.put, List.getElem_toArray, List.getElem_cons_zero, List.getElem_cons_succ, List.setIfInBounds_toArray, List.set_cons_zero, List.set_cons_succ]
    refine n_take (v := ?_) 5 rfl (Or.inl ⟨by rfl, ?_⟩) (by kernel_rfl) (fun _ _ _ h => h) (by assumption) ?_
    rotate_left 1
    ·(intro w' hSw; (try dsimp only at hSw); go_simp; try with_reducible rfl)
    simp only [Act.put, List.getElem_toArray, List.getElem_cons_zero, List.getElem_cons_succ, List.setIfInBounds_toArray, List.set_cons_zero, List.set_cons_succ]
    refine n_take (v := ?_) 6 rfl (Or.inl ⟨by rfl, ?_⟩) (by kernel_rfl) (fun _ _ _ h => h) (by assumption) ?_
    rotate_left 1
    ·(intro w' hSw; (try dsimp only at hSw); go_simp; try with_reducible rfl)
    simp only [Act.put, List.getElem_toArray, List.getElem_cons_zero, List.getElem_cons_succ, List.setIfInBounds_toArray, List.set_cons_zero, List.set_cons_succ]
    refine n_step 7 rfl (by kernel_rfl) ?_
    go_wp2_with fail
    have hd : Chg NoB wr wr.drew := (Chg.refl _ _).drew
    refine (Hih.out rb (t * 5) q Fc wr.drew (by omega) (hpc.keep0 hd)).mono ?_
    rintro en w2 ⟨rfl, Fc', hu2⟩
    have hu3 := hu2.ahead hd hpc NoB.elim (fun _ _ => NoB.elim) (fun _ e => NoB.elim e)
    obtain ⟨F2, hu4⟩ := Hup.out _ _ _ hu3
    have hx2 := hx.keep hu3.chg (fun e => by
     rcases e with e | e
     ·exact hxFr (e ▸ h3)
     ·exact hxFr (h4 _ e))
    go_wp2_with fail
    have hbn : ∀ x, x = rb ∨ x ∈ Fc → x ≠ b := fun x hx e => Hu.out.out' (by
     rw [← e]
     rcases hx with hx | hx
     ·exact hx ▸ h3
     ·exact h4 x hx)
    refine ⟨fun _ => ⟨(hu3.chg.cell (p := ⟨b, o + 4, none⟩) (lt_of_cell z4) (fun e => hbn b e rfl)).trans z4, hx2.cell 0⟩, fun _ => ?_⟩
    refine n_done (by kernel_rfl) ?_
    go_wp2_with fail
    go_roundw
    case rel =>
     refine ⟨t + 1, F2, hlt, by go_num, ?_, hx2⟩
     rw [← Hset.out]
     exact Hu.out.trans hu4
    case measure => simp [intOf]; omega
   ·have hts : t = s.length := by omega
    have hltI : ¬ (t : Int) < (s.length : Int) := by omega
    have hu := Hu.out
    rw [hts, List.take_length, List.drop_length, List.append_nil] at hu
    obtain ⟨v5, ht5, _, _, _, _, d4, dfz⟩ := hu.pt'.form
    obtain ⟨a5, c5, rfl, hlen5, hcap5⟩ := ht5.form
    have hFr := Lib.hid hu.pt'.lt.2
    have hbr := lt_of_cell d4
    have Hu2 := Lib.hid hu
    have hdel := delF_any (dropL id s) id w.heap.size wr B _ Fr ht5 hu.nd' hxFr (hx.cell 0)
    clear hu hts Hu
    go_wp2_with fail
    refine hdel.mono ?_
    rintro en w3 ⟨v6, F6, rfl, ht6, hc6, hs6, hn6⟩
    obtain ⟨a6, c6, rfl, _, _⟩ := ht6.form
    have e4 := (hc6.cell (p := ⟨b, o + 4, none⟩) hbr Hu2.out.out').trans d4
    have e4f : w3.frozen? ⟨b, o + 4, none⟩ = false := (hc6.frozen (p := ⟨b, o + 4, none⟩) hbr Hu2.out.out').trans (dfz _)
    have hfin := Hu2.out.trans (Hu2.out.pt'.list hc6 ht6 (fun e => Hu2.out.out' (hs6 _ e)) hn6 (fun x hx => .inl (hs6 x hx)))
    have Hfin := Lib.hid (hfin.ahead hc1 hp NoB.elim (fun _ _ => NoB.elim) (fun _ e => NoB.elim e))
    have hbr3 := lt_of_cell e4
    clear hfin hdel ht5 ht6 hn6 hs6 hc6 d4 dfz
    go_wp2_with fail
    refine bodyPost_ret (v := .tuple #[]) (by simp [results, Tryz.results55, go_sem]) rfl ?_
    exact ⟨rfl, F6, Hfin.out⟩
end Go.Proofs.YtgcmfpcgmkkobaaGreatDoor
