/-
  shredcolref2.ProjectOf: a schema under a projection, by its leaves.
-/
import Derived.Test.YtfbbfhhhfbibjaaGreatDoorKeep
import Derived.Test.YtfbbfhhhfbibjaaGreatDoorProjRef
import Derived.Test.YtfbbfhhhfbibjaaGreatDoorPackH
set_option linter.unusedVariables false
set_option linter.unusedSimpArgs false
namespace Go.Proofs.YtfbbfhhhfbibjaaGreatDoor
open Go.RowKit

def lvs (nd : Nd) (l : List Int) : List Int := l.flatMap (lvOf nd)
def foNd (nd : Nd) (id : Int) : Nd := match findP id (flatOf nd) with
  | some p => p.n
  | none => zeroNd
def foB (nd : Nd) (id : Int) : Bool := (findP id (flatOf nd)).isSome
def FoTwo (S : Nat → Prop) (n : Nd) (b : Bool) (w : World) (en : Ending) (w' : World) : Prop :=
  Chg NoB w w' ∧ ∃ pc : List Value, en = .returned (.tuple #[.agg pc.toArray, .bool b]) ∧ Reads w' (fun b => S b ∨ w.heap.size ≤ b) n.dt pc
theorem findOf_two (nd : Nd) (id : Int) (w : World) (S : Nat → Prop) (cs : List Value) (hr : Reads w S nd.dt cs) (hok : nd.ok) (hSB : ∀ b, S b → b < w.heap.size) :
    Calls Tryz.prog 23 #[.agg cs.toArray, .int .i64 id] w (FoTwo S (foNd nd id) (foB nd id) w) := by
  refine (findOf_any nd id w S cs hr hok hSB).mono fun en w' h => ⟨h.1, ?_⟩
  have h2 := h.2
  unfold foB foNd
  cases hf : findP id (flatOf nd) with
  | none => rw [hf] at h2; exact ⟨_, h2, zero_reads _ _⟩
  | some p => rw [hf] at h2; exact h2

/-- What is known behind the find: the node's block, and what it holds. -/
structure PoSit (w : World) (S : Nat → Prop) (p : Nd) (pc : List Value) (nb : Nat) (wk : World) : Prop where
  chg : Chg NoB w wk
  blk : Blk wk nb (ndCells 0 ⟨#[]⟩ 0 0 (.slice none 0 0)) 24
  ge : w.heap.size ≤ nb
  rd : Reads wk (fun b => S b ∨ (w.heap.size ≤ b ∧ b ≠ nb)) p.dt pc

def RetPO (r : PJ) (w : World) (en : Ending) (w' : World) : Prop :=
  Chg NoB w w' ∧ match r with
    | .ok n => ∃ cs, en = .returned (.tuple #[.agg cs.toArray, .int .i64 0]) ∧ Reads w' (fun b => w.heap.size ≤ b) n.dt cs
    | .er _ => en = .returned (.tuple #[zeroNode, .int .i64 3])
    | .non => en = .returned (.tuple #[zeroNode, .int .i64 6])

def PoRel (nd : Nd) (i : Int) (nm : ByteArray) (r k : Int) (sv : Value) (ids : List Int) (w : World) (vl vi : Value) (wr : World) : Prop :=
  ∃ j ao cap, j ≤ ids.length ∧ vi = .int .i64 (j : Nat) ∧ vl = .slice ao (lvs nd (ids.take j)).length cap ∧ Chg NoB w wr ∧ Blk wr w.heap.size (ndCells i nm r k sv) 24 ∧
    Blk wr (w.heap.size + 1) (ndCells 0 ⟨#[]⟩ 0 0 (.slice none 0 0)) 24 ∧ Own wr (w.heap.size + 2) 3 1 (fun _ => False) vl ((lvs nd (ids.take j)).map intDt) ∧ (ids.take j).any (fun x => !foB nd x) = false

theorem readsC_ints {w : World} {S S' : Nat → Prop} {k : Nat} : ∀ (l : List Int) (xs : List Value), ReadsC w S k (l.map intDt) xs → ReadsC w S' k (l.map intDt) xs
  | [], _, h => h
  | x :: xs, _, h => by
    obtain ⟨c, r, h1, h2, h3, h4⟩ := h
    exact ⟨c, r, h1, h2, h3, readsC_ints xs r h4⟩
theorem lvOf_len (nd : Nd) (x : Int) : (lvOf nd x).length ≤ 2001 := by
  unfold lvOf
  split
  · rename_i p _
    have h1 := underL_len (flatOf p.n)
    have h2 : (flatOf p.n).length ≤ 2001 := flatN_le p.n [] 1 (-1) (by simp)
    omega
  · simp
theorem lvs_len (nd : Nd) : ∀ l : List Int, (lvs nd l).length ≤ l.length * 2001
  | [] => Nat.le_refl _
  | x :: xs => by
    have h1 := lvOf_len nd x
    have h2 := lvs_len nd xs
    simp only [lvs, List.flatMap_cons, List.length_append, List.length_cons] at h2 ⊢
    omega

set_option maxHeartbeats 4000000 in
set_option maxRecDepth 100000 in
theorem projectOf_any (nd : Nd) (ids : List Int) (vi : Value) (w : World) (S T : Nat → Prop) (cs : List Value) (hv : validF nd = none) (hr : Reads w S nd.dt cs) (hok : nd.ok) (hSB : ∀ b, S b → b < w.heap.size)
    (hvi : Reads w T (.list 1 (ids.map intDt)) [vi]) (hids : ids.length ≤ 60) :
    Calls Tryz.prog 29 #[.agg cs.toArray, vi] w (RetPO (projRef nd ids) w) := by
  have hsch := schema_of_valid hv
  have hhigh := hsch.high
  have hwei := hsch.small
  have hL := flat_valid hv
  have hsmall := all_small 6 40 nd hok hhigh hwei
  rw [← fullN_P nd 1 (-1) 0, ← hL] at hsmall
  have hfoOk : ∀ x, foB nd x = true → (foNd nd x).ok := fun x hx => by
    unfold foB at hx
    unfold foNd
    cases hf : findP x (flatOf nd) with
    | none => rw [hf] at hx; cases hx
    | some p => exact (hsmall p (List.mem_of_find?_eq_some hf)).1
  have hfoLv : ∀ x, foB nd x = true → underL (flatOf (foNd nd x)) = lvOf nd x := fun x hx => by
    unfold foB at hx
    unfold foNd lvOf
    cases hf : findP x (flatOf nd) with
    | none => rw [hf] at hx; cases hx
    | some p => rfl
  have hres : ∀ r, (ids.any (fun x => !foB nd x) = true → r = PJ.non) → (ids.any (fun x => !foB nd x) = false → lvs nd ids = [] → r = .er .shape) → (ids.any (fun x => !foB nd x) = false → lvs nd ids ≠ [] → r = .ok (keepN (lvs nd ids) nd)) → r = projRef nd ids := fun r h1 h2 h3 => by
    have e : ids.any (fun i => (findP i (flatOf nd)).isNone) = ids.any (fun x => !foB nd x) := by
      congr 1
      funext x
      unfold foB
      cases findP x (flatOf nd) <;> rfl
    unfold projRef
    rw [e]
    show r = bif _ then _ else bif (lvs nd ids).isEmpty then _ else .ok (keepN (lvs nd ids) nd)
    cases ha : ids.any (fun x => !foB nd x) with
    | true => exact h1 ha
    | false =>
      simp only [cond_false]
      cases hb : lvs nd ids with
      | nil => exact h2 ha hb
      | cons y ys => rw [hb] at h3; exact h3 ha (by simp)
  clear hv hsch hL hsmall
  have Hres := Lib.hid hres
  have HfoOk := Lib.hid hfoOk
  have HfoLv := Lib.hid hfoLv
  clear hres hfoOk hfoLv
  obtain ⟨i, nm, r, k, sb⟩ := nd
  have hr' := hr
  obtain ⟨sv, rfl, hs⟩ := reads_nd.1 hr'
  obtain ⟨sa, cap, rfl, _, _, _⟩ := reads_subs hs
  obtain ⟨va, vc, rfl, hi1, hi2, hi3⟩ := list_cells (f := Value.int .i64) (show Reads w T (.list 1 (ids.map fun x => .lit (.int .i64 x))) [vi] from hvi)
  have Hi3 := Lib.hid hi3
  clear hi3
  go_enter Tryz.func29, Tryz.ntmps29
  go_wp2_with fail
  go_loopw [6, 7] (fun vl vi wr => PoRel (.mk i nm r k sb) i nm r k (.slice sa sb.length cap) ids w vl vi wr) (fun _ vi _ => ids.length - (intOf vi).toNat)
  case atStart => exact ⟨0, none, 0, Nat.zero_le _, rfl, rfl, ((Chg.refl _ _).alloc _).alloc _, (Blk.newAt rfl).alloc _, Blk.newAt (by simp), Own.nil _ _ _ _ _, rfl⟩
  case round =>
    obtain ⟨j, ao, ac, hj, rfl, rfl, hc, hb0, hb1, ho, hall⟩ := hrel
    have hsz : w.heap.size + 2 ≤ wr.heap.size := hb1.lt
    have hlen := lvs_len (.mk i nm r k sb) (ids.take j)
    rw [List.length_take] at hlen
    by_cases hlt : j < ids.length
    · obtain ⟨ib, ioff, rfl, _, hib, hic⟩ := Hi3.out (by omega)
      have e1 : wr.cell? ⟨ib, ioff + j, none⟩ = some (.int .i64 ids[j]) := (hc.cell (p := ⟨ib, ioff + j, none⟩) hib NoB.elim).trans (hic j ids[j] (by simp [hlt]))
      have htake : ids.take (j + 1) = ids.take j ++ [ids[j]] := List.take_succ_eq_append_getElem hlt
      have hmem : ids[j] ∈ ids := List.getElem_mem hlt
      generalize ids[j] = x at e1 htake hmem
      have hnext : lvs (.mk i nm r k sb) (ids.take (j + 1)) = lvs (.mk i nm r k sb) (ids.take j) ++ lvOf (.mk i nm r k sb) x := by rw [htake]; unfold lvs; rw [List.flatMap_append]; simp
      have hall2 : (ids.take (j + 1)).any (fun x => !foB (.mk i nm r k sb) x) = ((ids.take j).any (fun x => !foB (.mk i nm r k sb) x) || !foB (.mk i nm r k sb) x) := by rw [htake, List.any_append]; simp
      rw [hall, Bool.false_or] at hall2
      have Hall2 := Lib.hid hall2
      have Hnext := Lib.hid hnext
      have hokP := HfoOk.out x
      have hlvP := HfoLv.out x
      obtain ⟨p, hP⟩ : ∃ p, foNd (.mk i nm r k sb) x = p := ⟨_, rfl⟩
      obtain ⟨isB, hB⟩ : ∃ b, foB (.mk i nm r k sb) x = b := ⟨_, rfl⟩
      have Hbad : Hid (isB = false → ids.any (fun x => !foB (.mk i nm r k sb) x) = true) := Lib.hid (fun e => List.any_eq_true.2 ⟨x, hmem, by rw [hB, e]; rfl⟩)
      rw [hP] at hokP hlvP
      rw [hB] at hokP hlvP
      have HokP := Lib.hid hokP
      have HlvP := Lib.hid hlvP
      have HP := Lib.hid hP
      have HB := Lib.hid hB
      rw [HB.out] at Hall2
      clear htake hnext hall hall2 hokP hlvP hP hB hmem hic
      obtain ⟨ip, np, rp, kp, sp⟩ := p
      have c0 : wr.cell? ⟨w.heap.size, 0, none⟩ = some (.int .i64 (i)) := hb0.cell 0
      have c1 : wr.cell? ⟨w.heap.size, 1, none⟩ = some (.string nm) := hb0.cell 1
      have c2 : wr.cell? ⟨w.heap.size, 2, none⟩ = some (.int .i64 (r)) := hb0.cell 2
      have c3 : wr.cell? ⟨w.heap.size, 3, none⟩ = some (.int .i64 (k)) := hb0.cell 3
      have c4 : wr.cell? ⟨w.heap.size, 4, none⟩ = some (.slice sa sb.length cap) := hb0.cell 4
      have hSBr : ∀ b, S b → b < wr.heap.size := fun b hb => by have := hSB b hb; omega
      have hrr := hr.chg0 hc
      go_wp2_with fail
      refine wp_region_n (fun w' => w'.cell? ⟨w.heap.size, 0, none⟩ = some (.int .i64 i) ∧ w'.cell? ⟨w.heap.size, 1, none⟩ = some (.string nm) ∧ w'.cell? ⟨w.heap.size, 2, none⟩ = some (.int .i64 r) ∧ w'.cell? ⟨w.heap.size, 3, none⟩ = some (.int .i64 k) ∧ w'.cell? ⟨w.heap.size, 4, none⟩ = some (.slice sa sb.length cap) ∧ w'.cell? ⟨ib, ioff + j, none⟩ = some (.int .i64 x)) [] (by kernel_rfl) ?_ (fun hSh => ?_)
      · exact ⟨c0, c1, c2, c3, c4, e1⟩
      refine n_take (v := ?_) 0 rfl (Or.inl ⟨by rfl, ?_⟩) (by kernel_rfl) (fun _ _ _ h => h) (by assumption) ?_
      rotate_left 1
      · (intro w' hSw; (try dsimp only at hSw); go_simp; try with_reducible rfl)
      simp only [Act.put, List.getElem_toArray, List.getElem_cons_zero, List.getElem_cons_succ, List.setIfInBounds_toArray, List.set_cons_zero, List.set_cons_succ]
      refine n_take (v := ?_) 1 rfl (Or.inl ⟨by rfl, ?_⟩) (by kernel_rfl) (fun _ _ _ h => h) (by assumption) ?_
      rotate_left 1
      · (intro w' hSw; (try dsimp only at hSw); go_simp; try with_reducible rfl)
      simp only [Act.put, List.getElem_toArray, List.getElem_cons_zero, List.getElem_cons_succ, List.setIfInBounds_toArray, List.set_cons_zero, List.set_cons_succ]
      refine n_take (v := ?_) 2 rfl (Or.inl ⟨by rfl, ?_⟩) (by kernel_rfl) (fun _ _ _ h => h) (by assumption) ?_
      rotate_left 1
      · (intro w' hSw; (try dsimp only at hSw); go_simp; try with_reducible rfl)
      simp only [Act.put, List.getElem_toArray, List.getElem_cons_zero, List.getElem_cons_succ, List.setIfInBounds_toArray, List.set_cons_zero, List.set_cons_succ]
      refine n_take (v := ?_) 3 rfl (Or.inl ⟨by rfl, ?_⟩) (by kernel_rfl) (fun _ _ _ h => h) (by assumption) ?_
      rotate_left 1
      · (intro w' hSw; (try dsimp only at hSw); go_simp; try with_reducible rfl)
      simp only [Act.put, List.getElem_toArray, List.getElem_cons_zero, List.getElem_cons_succ, List.setIfInBounds_toArray, List.set_cons_zero, List.set_cons_succ]
      refine n_take (v := ?_) 4 rfl (Or.inl ⟨by rfl, ?_⟩) (by kernel_rfl) (fun _ _ _ h => h) (by assumption) ?_
      rotate_left 1
      · (intro w' hSw; (try dsimp only at hSw); go_simp; try with_reducible rfl)
      simp only [Act.put, List.getElem_toArray, List.getElem_cons_zero, List.getElem_cons_succ, List.setIfInBounds_toArray, List.set_cons_zero, List.set_cons_succ]
      have hcd : Chg NoB wr wr.drew := (Chg.refl _ _).drew
      have hSk := hSh
      clear hSh
      apply n_share
      · intro key
        refine n_fork 5 9 rfl rfl (by kernel_rfl) ?_ ?_
        · go_wp2_with fail
          refine (findOf_two (.mk i nm r k sb) x wr.drew S _ (hrr.chg0 hcd) hok hSBr).mono ?_
          rintro en w4 ⟨hc4, pc, rfl, hr4⟩
          rw [HP.out] at hr4
          rw [HB.out]
          obtain ⟨vp, rfl, hsp⟩ := reads_nd.1 hr4
          obtain ⟨sap, capp, rfl, hx1, hx2, hx3⟩ := reads_subs hsp
          clear hx1 hx2 hx3 hsp
          go_wp2_with fail
          have hcK := (hcd).tr hc4
          refine ⟨fun _ => ?_, fun hSk => ?_⟩
          · (repeat' refine And.intro ?_ ?_) <;> exact (hcK.cell (by first | assumption | (simp; done) | (simp; omega) | omega) NoB.elim).trans (by assumption)
          replace hSk := hSk (by rfl)
          clear hcK
          refine n_take (v := ?_) 6 rfl (Or.inl ⟨by rfl, ?_⟩) (by kernel_rfl) (fun _ _ _ h => h) (by assumption) ?_
          rotate_left 1
          · (intro w' hSw; (try dsimp only at hSw); go_simp; try with_reducible rfl)
          simp only [Act.put, List.getElem_toArray, List.getElem_cons_zero, List.getElem_cons_succ, List.setIfInBounds_toArray, List.set_cons_zero, List.set_cons_succ]
          refine n_take (v := ?_) 7 rfl (Or.inl ⟨by rfl, ?_⟩) (by kernel_rfl) (fun _ _ _ h => h) (by assumption) ?_
          rotate_left 1
          · (intro w' hSw; (try dsimp only at hSw); go_simp; try with_reducible rfl)
          simp only [Act.put, List.getElem_toArray, List.getElem_cons_zero, List.getElem_cons_succ, List.setIfInBounds_toArray, List.set_cons_zero, List.set_cons_succ]
          refine n_take (v := ?_) 8 rfl (Or.inl ⟨by rfl, ?_⟩) (by kernel_rfl) (fun _ _ _ h => h) (by assumption) ?_
          rotate_left 1
          · (intro w' hSw; (try dsimp only at hSw); go_simp; try with_reducible rfl)
          simp only [Act.put, List.getElem_toArray, List.getElem_cons_zero, List.getElem_cons_succ, List.setIfInBounds_toArray, List.set_cons_zero, List.set_cons_succ]
          refine n_step 9 rfl (by kernel_rfl) ?_
          go_wp2_with fail
          have hsit : PoSit wr S (.mk ip np rp kp sp) [.int .i64 ip, .string np, .int .i64 rp, .int .i64 kp, .slice sap sp.length capp] w4.heap.size (w4.alloc (.cells #[.int .i64 0, .string ⟨#[]⟩, .int .i64 0, .int .i64 0, .slice none 0 0] 24)) := by
            have h1 : Chg NoB wr w4 := hcd.tr hc4
            have h2 := h1.size
            refine ⟨h1.alloc _, Blk.new w4 (ndCells 0 ⟨#[]⟩ 0 0 (.slice none 0 0)) 24, h2, ?_⟩
            have h3 := ((hr4.lt).chg0 ((Chg.refl NoB w4).alloc (.cells #[.int .i64 0, .string ⟨#[]⟩, .int .i64 0, .int .i64 0, .slice none 0 0] 24)))
            refine h3.mono fun b hb => hb.1.imp id (fun h => ⟨h, ?_⟩)
            have := hb.2; omega
          generalize hnb : w4.heap.size = nb at hsit ⊢
          generalize hw5 : w4.alloc _ = w5 at hsit ⊢
          have hcA := hsit.chg
          refine ⟨fun _ => ?_, fun hSk => ?_⟩
          · (repeat' refine And.intro ?_ ?_) <;> exact (hcA.cell (by first | assumption | (simp; done) | (simp; omega) | omega) NoB.elim).trans (by assumption)
          replace hSk := hSk (by rfl)
          clear hnb hw5 hcA hc4 hr4
          revert hSk; revert hsit; revert w5; revert nb; revert capp; revert sap
          exact key.goes
        · go_wp2_with fail
          generalize hwB : World.drew (World.alloc wr _) = wB
          have hcB : Chg NoB wr wB := by
            rw [← hwB]
            repeat (first | exact Chg.refl _ _ | apply Chg.alloc | apply Chg.drew)
          have hbB : Blk wB (wr.heap.size) (ndCells 0 ⟨#[]⟩ 0 0 (.slice none 0 0)) 24 := by
            rw [← hwB]
            repeat (first | exact Blk.newAt (by first | rfl | (simp; done) | (simp; omega)) | apply Blk.alloc | apply Blk.drew)
          clear hwB
          refine ⟨fun _ => ?_, fun hSk => ?_⟩
          · (repeat' refine And.intro ?_ ?_) <;> exact (hcB.cell (by first | assumption | (simp; done) | (simp; omega) | omega) NoB.elim).trans (by assumption)
          replace hSk := hSk (by rfl)
          have hrB := hrr.chg0 hcB
          have hSBB : ∀ b, S b → b < wB.heap.size := fun b hb => by have := hSBr b hb; have := hcB.size; omega
          have hszB := hbB.lt
          refine n_step 5 rfl (by kernel_rfl) ?_
          go_wp2_with fail
          refine (findOf_two (.mk i nm r k sb) x wB S _ hrB hok hSBB).mono ?_
          rintro en w4 ⟨hc4, pc, rfl, hr4⟩
          rw [HP.out] at hr4
          rw [HB.out]
          obtain ⟨vp, rfl, hsp⟩ := reads_nd.1 hr4
          obtain ⟨sap, capp, rfl, hx1, hx2, hx3⟩ := reads_subs hsp
          clear hx1 hx2 hx3 hsp
          go_wp2_with fail
          have hcK := (hcB).tr hc4
          refine ⟨fun _ => ?_, fun hSk => ?_⟩
          · (repeat' refine And.intro ?_ ?_) <;> exact (hcK.cell (by first | assumption | (simp; done) | (simp; omega) | omega) NoB.elim).trans (by assumption)
          replace hSk := hSk (by rfl)
          clear hcK
          refine n_take (v := ?_) 6 rfl (Or.inl ⟨by rfl, ?_⟩) (by kernel_rfl) (fun _ _ _ h => h) (by assumption) ?_
          rotate_left 1
          · (intro w' hSw; (try dsimp only at hSw); go_simp; try with_reducible rfl)
          simp only [Act.put, List.getElem_toArray, List.getElem_cons_zero, List.getElem_cons_succ, List.setIfInBounds_toArray, List.set_cons_zero, List.set_cons_succ]
          refine n_take (v := ?_) 7 rfl (Or.inl ⟨by rfl, ?_⟩) (by kernel_rfl) (fun _ _ _ h => h) (by assumption) ?_
          rotate_left 1
          · (intro w' hSw; (try dsimp only at hSw); go_simp; try with_reducible rfl)
          simp only [Act.put, List.getElem_toArray, List.getElem_cons_zero, List.getElem_cons_succ, List.setIfInBounds_toArray, List.set_cons_zero, List.set_cons_succ]
          refine n_take (v := ?_) 8 rfl (Or.inl ⟨by rfl, ?_⟩) (by kernel_rfl) (fun _ _ _ h => h) (by assumption) ?_
          rotate_left 1
          · (intro w' hSw; (try dsimp only at hSw); go_simp; try with_reducible rfl)
          simp only [Act.put, List.getElem_toArray, List.getElem_cons_zero, List.getElem_cons_succ, List.setIfInBounds_toArray, List.set_cons_zero, List.set_cons_succ]
          have hsit : PoSit wr S (.mk ip np rp kp sp) [.int .i64 ip, .string np, .int .i64 rp, .int .i64 kp, .slice sap sp.length capp] wr.heap.size w4 := by
            refine ⟨hcB.tr hc4, hbB.keep hc4 NoB.elim, Nat.le_refl _, hr4.mono fun b hb => hb.imp id (fun h => ?_)⟩
            omega
          exact n_listed (by kernel_rfl) (key.goes sap capp wr.heap.size w4 hsit hSk)
      intro sap capp nb w5 hsit hSk
      have hn5 := hsit.blk
      have hge := hsit.ge
      have hln5 := hn5.lt
      have hc5 := hsit.chg
      have z0 : w5.frozen? ⟨nb, 0, none⟩ = false := hn5.free 0
      have z1 : w5.frozen? ⟨nb, 1, none⟩ = false := hn5.free 1
      have z2 : w5.frozen? ⟨nb, 2, none⟩ = false := hn5.free 2
      have z3 : w5.frozen? ⟨nb, 3, none⟩ = false := hn5.free 3
      have z4 : w5.frozen? ⟨nb, 4, none⟩ = false := hn5.free 4
      have y0 : w5.cell? ⟨nb, 0, none⟩ = some (.int .i64 (0)) := hn5.cell 0
      have y1 : w5.cell? ⟨nb, 1, none⟩ = some (.string ⟨#[]⟩) := hn5.cell 1
      have y2 : w5.cell? ⟨nb, 2, none⟩ = some (.int .i64 (0)) := hn5.cell 2
      have y3 : w5.cell? ⟨nb, 3, none⟩ = some (.int .i64 (0)) := hn5.cell 3
      have y4 : w5.cell? ⟨nb, 4, none⟩ = some (.slice none 0 0) := hn5.cell 4
      refine n_step 10 rfl (by kernel_rfl) ?_
      go_wp2_with fail
      have hn6 := store5 hn5 (.int .i64 ip) (.string np) (.int .i64 rp) (.int .i64 kp) (.slice sap sp.length capp)
      have hc6 := hc5.trans (store5_chg w5 nb (.int .i64 ip) (.string np) (.int .i64 rp) (.int .i64 kp) (.slice sap sp.length capp)) (fun x e => .inr (by have e : x = nb := e; omega))
      have hr6 := hsit.rd.chg (store5_chg w5 nb (.int .i64 ip) (.string np) (.int .i64 rp) (.int .i64 kp) (.slice sap sp.length capp)) (fun x hx e => by
        have e : x = nb := e
        rcases hx with hx | hx
        · have := hSBr x hx; omega
        · exact hx.2 e)
      generalize hw6 : World.setCell _ _ (Value.slice sap sp.length capp) = w6 at hn6 hc6 hr6 ⊢
      clear hw6 hsit hn5 hc5 z0 z1 z2 z3 z4 hln5 y0 y1 y2 y3 y4
      refine ⟨fun _ => ?_, fun hSk => ?_⟩
      · (repeat' refine And.intro ?_ ?_) <;> exact (hc6.cell (by first | assumption | (simp; done) | (simp; omega) | omega) NoB.elim).trans (by assumption)
      replace hSk := hSk (by rfl)
      refine n_take (v := ?_) 11 rfl (Or.inl ⟨by rfl, ?_⟩) (by kernel_rfl) (fun _ _ _ h => h) (by assumption) ?_
      rotate_left 1
      · (intro w' hSw; (try dsimp only at hSw); go_simp; try with_reducible rfl)
      simp only [Act.put, List.getElem_toArray, List.getElem_cons_zero, List.getElem_cons_succ, List.setIfInBounds_toArray, List.set_cons_zero, List.set_cons_succ]
      refine n_done (by kernel_rfl) ?_
      clear hSk
      have hb06 := hb0.keep hc6 NoB.elim
      have hb16 := hb1.keep hc6 NoB.elim
      have ho6 := ho.keep hc6 (fun _ h => h.elim) (fun _ _ => NoB.elim)
      have hc06 := hc.tr hc6
      clear c0 c1 c2 c3 c4
      have d0 : w6.cell? ⟨nb, 0, none⟩ = some (.int .i64 (ip)) := hn6.cell 0
      have d1 : w6.cell? ⟨nb, 1, none⟩ = some (.string np) := hn6.cell 1
      have d2 : w6.cell? ⟨nb, 2, none⟩ = some (.int .i64 (rp)) := hn6.cell 2
      have d3 : w6.cell? ⟨nb, 3, none⟩ = some (.int .i64 (kp)) := hn6.cell 3
      have d4 : w6.cell? ⟨nb, 4, none⟩ = some (.slice sap sp.length capp) := hn6.cell 4
      have ln6 := hn6.lt
      cases isB with
      | false =>
        have hnon : projRef (.mk i nm r k sb) ids = .non := (Hres.out .non (fun _ => rfl) (fun h _ => by rw [Hbad.out rfl] at h; cases h) (fun h _ => by rw [Hbad.out rfl] at h; cases h)).symm
        have Hnon := Lib.hid hnon
        clear hnon
        have y0 : w6.cell? ⟨w.heap.size + 1, 0, none⟩ = some (.int .i64 (0)) := hb16.cell 0
        have y1 : w6.cell? ⟨w.heap.size + 1, 1, none⟩ = some (.string ⟨#[]⟩) := hb16.cell 1
        have y2 : w6.cell? ⟨w.heap.size + 1, 2, none⟩ = some (.int .i64 (0)) := hb16.cell 2
        have y3 : w6.cell? ⟨w.heap.size + 1, 3, none⟩ = some (.int .i64 (0)) := hb16.cell 3
        have y4 : w6.cell? ⟨w.heap.size + 1, 4, none⟩ = some (.slice none 0 0) := hb16.cell 4
        have z0 : w6.frozen? ⟨w.heap.size + 1, 0, none⟩ = false := hb16.free 0
        have z1 : w6.frozen? ⟨w.heap.size + 1, 1, none⟩ = false := hb16.free 1
        have z2 : w6.frozen? ⟨w.heap.size + 1, 2, none⟩ = false := hb16.free 2
        have z3 : w6.frozen? ⟨w.heap.size + 1, 3, none⟩ = false := hb16.free 3
        have z4 : w6.frozen? ⟨w.heap.size + 1, 4, none⟩ = false := hb16.free 4
        have l16 := hb16.lt
        go_wp2_with fail
        have hb9 := store5 hb16 (.int .i64 0) (.string ⟨#[]⟩) (.int .i64 0) (.int .i64 0) (.slice none 0 0)
        have hc9 := hc06.trans' (store5_chg w6 (w.heap.size + 1) (.int .i64 0) (.string ⟨#[]⟩) (.int .i64 0) (.int .i64 0) (.slice none 0 0)) (fun x e => by have e : x = w.heap.size + 1 := e; omega)
        generalize World.setCell (World.setCell (World.setCell (World.setCell (World.setCell w6 ⟨w.heap.size + 1, 0, none⟩ (.int .i64 0)) ⟨w.heap.size + 1, 1, none⟩ (.string ⟨#[]⟩)) ⟨w.heap.size + 1, 2, none⟩ (.int .i64 0)) ⟨w.heap.size + 1, 3, none⟩ (.int .i64 0)) ⟨w.heap.size + 1, 4, none⟩ (.slice none 0 0) = w9 at *
        have n0 : w9.cell? ⟨w.heap.size + 1, 0, none⟩ = some (.int .i64 (0)) := hb9.cell 0
        have n1 : w9.cell? ⟨w.heap.size + 1, 1, none⟩ = some (.string ⟨#[]⟩) := hb9.cell 1
        have n2 : w9.cell? ⟨w.heap.size + 1, 2, none⟩ = some (.int .i64 (0)) := hb9.cell 2
        have n3 : w9.cell? ⟨w.heap.size + 1, 3, none⟩ = some (.int .i64 (0)) := hb9.cell 3
        have n4 : w9.cell? ⟨w.heap.size + 1, 4, none⟩ = some (.slice none 0 0) := hb9.cell 4
        refine bodyPost_ret (v := .tuple #[zeroNode, (.int .i64 6)]) (by simp [results, Tryz.results29, go_sem, n0, n1, n2, n3, n4, zeroNode]) rfl ?_
        unfold RetPO
        rw [Hnon.out]
        exact ⟨hc9, rfl⟩
      | true =>
        have hokp := HokP.out rfl
        have hlv := HlvP.out rfl
        have Hlv := Lib.hid hlv
        clear hlv
        go_wp2_with fail
        refine (underOf_any (.mk ip np rp kp sp) w6 _ _ hr6 hokp).mono ?_
        rintro en w7 ⟨a7, c7, rfl, hl7, hc7⟩
        rw [List.length_map, Hlv.out] at hl7 ⊢
        obtain ⟨a8, c8, news, e8, _, _, hnews, hcell8, hnone8⟩ := news_of hl7
        rw [List.length_map] at e8 hnone8
        obtain ⟨rfl, -, rfl⟩ := Value.slice.inj e8
        clear e8
        go_wp2_with (at_builtin; refine stop_here ?_)
        refine Stop.go ?_
        have hc67 := hc6.tr hc7
        have hc07 := hc.tr hc67
        have ho7 := ho6.keep hc7 (fun _ h => h.elim) (fun _ _ => NoB.elim)
        have hlA : ((lvs (.mk i nm r k sb) (ids.take j)).map intDt).length = (lvs (.mk i nm r k sb) (ids.take j)).length := List.length_map ..
        have hlx := lvOf_len (.mk i nm r k sb) x
        refine wpList_own rfl (.tmp 28) (.tmp 30) 51 rfl (w.heap.size + 2) 3 Tryz.underlying51 infoInt1 rfl (by decide) rfl ho7 rfl ((lvOf (.mk i nm r k sb) x).map intDt) news (List.length_map ..) (readsC_ints _ _ hnews) hcell8 hnone8 ?_ ?_ ?_ ?_
        · rw [hlA]; unfold maxLen; omega
        · rw [hlA]; omega
        · have := hb06.lt; have := hb16.lt; have := hc7.size; omega
        intro ao4 cap4 wB hoB hcB hatB
        rw [hlA] at hoB ⊢
        have hcV : Chg NoB w wB := hc07.trans hcB (fun b e => .inr (by have := (ho7.block b e).1; omega))
        have hb08 := (hb06.keep hc7 NoB.elim).keep hcB (fun e => by have := (ho7.block _ e).1; omega)
        have hb18 := (hb16.keep hc7 NoB.elim).keep hcB (fun e => by have := (ho7.block _ e).1; omega)
        go_wp2_with fail
        go_roundw
        case rel =>
          refine ⟨j + 1, ao4, cap4, hlt, by go_num, ?_, hcV, hb08, hb18, ?_, Hall2.out⟩
          · show Value.slice ao4 ((lvs (.mk i nm r k sb) (ids.take j)).length + (lvOf (.mk i nm r k sb) x).length) cap4 = _
            rw [Hnext.out, List.length_append]
          · rw [Hnext.out, List.map_append]
            exact hoB
        case measure => simp [intOf]; omega
    · have hjl : j = ids.length := by omega
      subst hjl
      rw [List.take_length] at hall ho ⊢
      have hres := Hres.out
      rw [hall] at hres
      have hlen9 := lvs_len (.mk i nm r k sb) ids
      generalize lvs (.mk i nm r k sb) ids = L at *
      have Hall := Lib.hid hall
      clear hall Hres hlen
      have ho63 : L.length ≤ 9223372036854775807 := by omega
      have y0 : wr.cell? ⟨w.heap.size + 1, 0, none⟩ = some (.int .i64 (0)) := hb1.cell 0
      have y1 : wr.cell? ⟨w.heap.size + 1, 1, none⟩ = some (.string ⟨#[]⟩) := hb1.cell 1
      have y2 : wr.cell? ⟨w.heap.size + 1, 2, none⟩ = some (.int .i64 (0)) := hb1.cell 2
      have y3 : wr.cell? ⟨w.heap.size + 1, 3, none⟩ = some (.int .i64 (0)) := hb1.cell 3
      have y4 : wr.cell? ⟨w.heap.size + 1, 4, none⟩ = some (.slice none 0 0) := hb1.cell 4
      have z0 : wr.frozen? ⟨w.heap.size + 1, 0, none⟩ = false := hb1.free 0
      have z1 : wr.frozen? ⟨w.heap.size + 1, 1, none⟩ = false := hb1.free 1
      have z2 : wr.frozen? ⟨w.heap.size + 1, 2, none⟩ = false := hb1.free 2
      have z3 : wr.frozen? ⟨w.heap.size + 1, 3, none⟩ = false := hb1.free 3
      have z4 : wr.frozen? ⟨w.heap.size + 1, 4, none⟩ = false := hb1.free 4
      have l1 := hb1.lt
      by_cases hL : L = []
      · have hr9 : projRef (.mk i nm r k sb) ids = .er .shape := (hres (.er .shape) (fun h => by cases h) (fun _ _ => rfl) (fun _ h => absurd hL h)).symm
        have Hr9 := Lib.hid hr9
        subst hL
        clear hr9 hres
        have hL0 : ((([] : List Int).length : Nat) : Int) = 0 := rfl
        go_wp2_with fail
        have hb9 := store5 hb1 (.int .i64 0) (.string ⟨#[]⟩) (.int .i64 0) (.int .i64 0) (.slice none 0 0)
        have hc9 := hc.trans' (store5_chg wr (w.heap.size + 1) (.int .i64 0) (.string ⟨#[]⟩) (.int .i64 0) (.int .i64 0) (.slice none 0 0)) (fun x e => by have e : x = w.heap.size + 1 := e; omega)
        generalize World.setCell (World.setCell (World.setCell (World.setCell (World.setCell wr ⟨w.heap.size + 1, 0, none⟩ (.int .i64 0)) ⟨w.heap.size + 1, 1, none⟩ (.string ⟨#[]⟩)) ⟨w.heap.size + 1, 2, none⟩ (.int .i64 0)) ⟨w.heap.size + 1, 3, none⟩ (.int .i64 0)) ⟨w.heap.size + 1, 4, none⟩ (.slice none 0 0) = w9 at *
        have n0 : w9.cell? ⟨w.heap.size + 1, 0, none⟩ = some (.int .i64 (0)) := hb9.cell 0
        have n1 : w9.cell? ⟨w.heap.size + 1, 1, none⟩ = some (.string ⟨#[]⟩) := hb9.cell 1
        have n2 : w9.cell? ⟨w.heap.size + 1, 2, none⟩ = some (.int .i64 (0)) := hb9.cell 2
        have n3 : w9.cell? ⟨w.heap.size + 1, 3, none⟩ = some (.int .i64 (0)) := hb9.cell 3
        have n4 : w9.cell? ⟨w.heap.size + 1, 4, none⟩ = some (.slice none 0 0) := hb9.cell 4
        refine bodyPost_ret (v := .tuple #[zeroNode, (.int .i64 3)]) (by simp [results, Tryz.results29, go_sem, n0, n1, n2, n3, n4, zeroNode]) rfl ?_
        unfold RetPO
        rw [Hr9.out]
        exact ⟨hc9, rfl⟩
      · have hr9 : projRef (.mk i nm r k sb) ids = .ok (keepN L (.mk i nm r k sb)) := (hres _ (fun h => by cases h) (fun _ h => absurd h hL) (fun _ _ => rfl)).symm
        have Hr9 := Lib.hid hr9
        have hL0 : ¬ ((L.length : Nat) : Int) = 0 := fun e => hL (List.eq_nil_of_length_eq_zero (by omega))
        clear hr9 hres hL
        have c0 : wr.cell? ⟨w.heap.size, 0, none⟩ = some (.int .i64 (i)) := hb0.cell 0
        have c1 : wr.cell? ⟨w.heap.size, 1, none⟩ = some (.string nm) := hb0.cell 1
        have c2 : wr.cell? ⟨w.heap.size, 2, none⟩ = some (.int .i64 (r)) := hb0.cell 2
        have c3 : wr.cell? ⟨w.heap.size, 3, none⟩ = some (.int .i64 (k)) := hb0.cell 3
        have c4 : wr.cell? ⟨w.heap.size, 4, none⟩ = some (.slice sa sb.length cap) := hb0.cell 4
        have hLr := ho.reads (S' := fun b => w.heap.size + 2 ≤ b) (fun _ h => h.elim) (fun b hb _ => hb) (by rw [List.length_map]; unfold maxLen; omega)
        go_wp2_with fail
        refine (keep_any L _ _ (.mk i nm r k sb) wr S _ _ (Nat.le_refl _) (hr.chg0 hc) hok (by omega) (by omega) hLr).mono ?_
        rintro en w2 ⟨cs2, rfl, hr2, hc2⟩
        replace hr2 : Reads w2 _ (Nd.dt (.mk i nm r k (keepL L sb))) cs2 := hr2
        obtain ⟨v2, rfl, hs2⟩ := reads_nd.1 hr2
        obtain ⟨sa2, cap2, rfl, _, _, _⟩ := reads_subs hs2
        have hb12 := hb1.keep hc2 NoB.elim
        have hc02 := hc.tr hc2
        clear y0 y1 y2 y3 y4 z0 z1 z2 z3 z4
        have y0 : w2.cell? ⟨w.heap.size + 1, 0, none⟩ = some (.int .i64 (0)) := hb12.cell 0
        have y1 : w2.cell? ⟨w.heap.size + 1, 1, none⟩ = some (.string ⟨#[]⟩) := hb12.cell 1
        have y2 : w2.cell? ⟨w.heap.size + 1, 2, none⟩ = some (.int .i64 (0)) := hb12.cell 2
        have y3 : w2.cell? ⟨w.heap.size + 1, 3, none⟩ = some (.int .i64 (0)) := hb12.cell 3
        have y4 : w2.cell? ⟨w.heap.size + 1, 4, none⟩ = some (.slice none 0 0) := hb12.cell 4
        have z0 : w2.frozen? ⟨w.heap.size + 1, 0, none⟩ = false := hb12.free 0
        have z1 : w2.frozen? ⟨w.heap.size + 1, 1, none⟩ = false := hb12.free 1
        have z2 : w2.frozen? ⟨w.heap.size + 1, 2, none⟩ = false := hb12.free 2
        have z3 : w2.frozen? ⟨w.heap.size + 1, 3, none⟩ = false := hb12.free 3
        have z4 : w2.frozen? ⟨w.heap.size + 1, 4, none⟩ = false := hb12.free 4
        have l2 := hb12.lt
        go_wp2_with fail
        have hb9 := store5 hb12 (.int .i64 (i)) (.string nm) (.int .i64 (r)) (.int .i64 (k)) (.slice sa2 (keepL L sb).length cap2)
        have hc9 := hc02.trans' (store5_chg w2 (w.heap.size + 1) (.int .i64 (i)) (.string nm) (.int .i64 (r)) (.int .i64 (k)) (.slice sa2 (keepL L sb).length cap2)) (fun x e => by have e : x = w.heap.size + 1 := e; omega)
        have hone := store5_chg w2 (w.heap.size + 1) (.int .i64 (i)) (.string nm) (.int .i64 (r)) (.int .i64 (k)) (.slice sa2 (keepL L sb).length cap2)
        generalize World.setCell (World.setCell (World.setCell (World.setCell (World.setCell w2 ⟨w.heap.size + 1, 0, none⟩ (.int .i64 (i))) ⟨w.heap.size + 1, 1, none⟩ (.string nm)) ⟨w.heap.size + 1, 2, none⟩ (.int .i64 (r))) ⟨w.heap.size + 1, 3, none⟩ (.int .i64 (k))) ⟨w.heap.size + 1, 4, none⟩ (.slice sa2 (keepL L sb).length cap2) = w9 at hb9 hc9 hone ⊢
        have n0 : w9.cell? ⟨w.heap.size + 1, 0, none⟩ = some (.int .i64 (i)) := hb9.cell 0
        have n1 : w9.cell? ⟨w.heap.size + 1, 1, none⟩ = some (.string nm) := hb9.cell 1
        have n2 : w9.cell? ⟨w.heap.size + 1, 2, none⟩ = some (.int .i64 (r)) := hb9.cell 2
        have n3 : w9.cell? ⟨w.heap.size + 1, 3, none⟩ = some (.int .i64 (k)) := hb9.cell 3
        have n4 : w9.cell? ⟨w.heap.size + 1, 4, none⟩ = some (.slice sa2 (keepL L sb).length cap2) := hb9.cell 4
        refine bodyPost_ret (v := .tuple #[.agg #[.int .i64 (i), .string nm, .int .i64 (r), .int .i64 (k), .slice sa2 (keepL L sb).length cap2], .int .i64 0]) (by simp [results, Tryz.results29, go_sem, n0, n1, n2, n3, n4]) rfl ?_
        unfold RetPO
        rw [Hr9.out]
        refine ⟨hc9, _, rfl, (hr2.chg hone (fun b hb e => by have e : b = w.heap.size + 1 := e; have hb : wr.heap.size ≤ b := hb; omega)).mono (fun b hb => by have hb : wr.heap.size ≤ b := hb; omega)⟩
end Go.Proofs.YtfbbfhhhfbibjaaGreatDoor
