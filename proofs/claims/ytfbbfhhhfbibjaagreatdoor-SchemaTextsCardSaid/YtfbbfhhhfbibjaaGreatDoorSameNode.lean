/-
  Two nodes that read the same: shredcolref2.SameNode answers true; nothing has changed.
-/
import Derived.Test.YtfbbfhhhfbibjaaGreatDoorOwnNode
namespace Go.Proofs.YtfbbfhhhfbibjaaGreatDoor
open Go.RowKit

/-- One value is handed back; nothing that was there has changed. -/
def RetV (v : Value) (w : World) (e : Ending) (w' : World) : Prop := e = .returned v ∧ Chg NoB w w'

def SameRel (w : World) (i : Int) (n : ByteArray) (r k : Int) (len : Nat) (v1 v2 : Value) (vi : Value) (wr : World) : Prop :=
  ∃ j, j ≤ len ∧ vi = .int .i64 (j : Nat) ∧ Chg NoB w wr ∧ Blk wr w.heap.size (ndCells i n r k v1) 24 ∧ Blk wr (w.heap.size + 1) (ndCells i n r k v2) 24

set_option maxHeartbeats 1000000 in
theorem sameNode_yes : ∀ (m : Nat) (nd : Nd) (w : World) (S S' : Nat → Prop) (cs cs' : List Value), nd.weigh ≤ m → Reads w S nd.dt cs → Reads w S' nd.dt cs' → nd.ok →
    Calls Tryz.prog 19 #[.agg cs.toArray, .agg cs'.toArray] w (RetV (.bool true) w) := by
  intro m
  induction m with
  | zero => intro nd w S S' cs cs' hm; cases nd; simp [Nd.weigh] at hm
  | succ m ih =>
    intro nd w S S' cs cs' hm hr hr' hok
    obtain ⟨i, n, r, k, s⟩ := nd
    obtain ⟨sv, rfl, hs⟩ := reads_nd.1 hr
    obtain ⟨a, cap, rfl, hlen, hcap, hel⟩ := reads_list hs
    obtain ⟨sv', rfl, hs'⟩ := reads_nd.1 hr'
    obtain ⟨a', cap', rfl, hlen', hcap', hel'⟩ := reads_list hs'
    obtain ⟨hi, hn, hrr, hk, hsl, hoks⟩ := hok
    simp only [Nd.dts_eq, List.length_map] at hlen hel hlen' hel' ⊢
    unfold reach at hsl
    go_enter Tryz.func19, Tryz.ntmps19
    go_wp2_with fail
    go_loopw [5] (fun vi wr => SameRel w i n r k s.length (.slice a s.length cap) (.slice a' s.length cap') vi wr) (fun vi _ => s.length - (intOf vi).toNat)
    case atStart =>
      exact ⟨0, Nat.zero_le _, rfl, ((Chg.refl _ _).alloc _).alloc _, (Blk.newAt rfl).alloc _, Blk.newAt (by simp)⟩
    case round =>
      obtain ⟨j, hj, rfl, hc, hb0, hb1⟩ := hrel
      have c4 : wr.cell? ⟨w.heap.size, 4, none⟩ = some (.slice a s.length cap) := hb0.cell 4
      have d4 : wr.cell? ⟨w.heap.size + 1, 4, none⟩ = some (.slice a' s.length cap') := hb1.cell 4
      have hsz : w.heap.size + 2 ≤ wr.heap.size := hb1.lt
      by_cases hlt : j < s.length
      · obtain ⟨b, off, rfl, hSb, hbw, hE⟩ := hel (by omega)
        obtain ⟨b', off', rfl, hSb', hbw', hE'⟩ := hel' (by omega)
        obtain ⟨ecs, hl5, hcells, hre⟩ := hE.get j s[j].dt (by simp [hlt])
        obtain ⟨ecs', hl5', hcells', hre'⟩ := hE'.get j s[j].dt (by simp [hlt])
        have hmem : s[j] ∈ s := List.getElem_mem hlt
        have hw1 := Nd.weigh_mem hmem
        have hok1 := Nd.oks_mem hoks _ hmem
        generalize s[j] = nj at hre hre' hw1 hok1
        obtain ⟨i1, n1, r1, k1, s1⟩ := nj
        obtain ⟨v1, rfl, hs1⟩ := reads_nd.1 hre
        obtain ⟨v1', rfl, hs1'⟩ := reads_nd.1 hre'
        have ef : ∀ t c, [Value.int .i64 i1, .string n1, .int .i64 r1, .int .i64 k1, v1][t]? = some c → wr.cell? ⟨b, off + j * 5 + t, none⟩ = some c := fun t c ht => (hc.cell (p := ⟨b, off + j * 5 + t, none⟩) hbw (fun e => e)).trans (hcells t c ht)
        have e0 : wr.cell? ⟨b, off + j * 5, none⟩ = some (.int .i64 i1) := ef 0 _ rfl
        have e1 : wr.cell? ⟨b, off + j * 5 + 1, none⟩ = some (.string n1) := ef 1 _ rfl
        have e2 : wr.cell? ⟨b, off + j * 5 + 2, none⟩ = some (.int .i64 r1) := ef 2 _ rfl
        have e3 : wr.cell? ⟨b, off + j * 5 + 3, none⟩ = some (.int .i64 k1) := ef 3 _ rfl
        have e4 : wr.cell? ⟨b, off + j * 5 + 4, none⟩ = some v1 := ef 4 _ rfl
        clear ef
        have gf : ∀ t c, [Value.int .i64 i1, .string n1, .int .i64 r1, .int .i64 k1, v1'][t]? = some c → wr.cell? ⟨b', off' + j * 5 + t, none⟩ = some c := fun t c ht => (hc.cell (p := ⟨b', off' + j * 5 + t, none⟩) hbw' (fun e => e)).trans (hcells' t c ht)
        have g0 : wr.cell? ⟨b', off' + j * 5, none⟩ = some (.int .i64 i1) := gf 0 _ rfl
        have g1 : wr.cell? ⟨b', off' + j * 5 + 1, none⟩ = some (.string n1) := gf 1 _ rfl
        have g2 : wr.cell? ⟨b', off' + j * 5 + 2, none⟩ = some (.int .i64 r1) := gf 2 _ rfl
        have g3 : wr.cell? ⟨b', off' + j * 5 + 3, none⟩ = some (.int .i64 k1) := gf 3 _ rfl
        have g4 : wr.cell? ⟨b', off' + j * 5 + 4, none⟩ = some v1' := gf 4 _ rfl
        clear gf
        go_wp2_with fail
        refine wp_region_n (fun w' => w'.cell? ⟨w.heap.size, 4, none⟩ = some (.slice (some ⟨b, off, none⟩) s.length cap) ∧ w'.cell? ⟨w.heap.size + 1, 4, none⟩ = some (.slice (some ⟨b', off', none⟩) s.length cap') ∧ w'.cell? ⟨b, off + j * 5, none⟩ = some (.int .i64 i1) ∧ w'.cell? ⟨b, off + j * 5 + 1, none⟩ = some (.string n1) ∧ w'.cell? ⟨b, off + j * 5 + 2, none⟩ = some (.int .i64 r1) ∧ w'.cell? ⟨b, off + j * 5 + 3, none⟩ = some (.int .i64 k1) ∧ w'.cell? ⟨b, off + j * 5 + 4, none⟩ = some v1 ∧ w'.cell? ⟨b', off' + j * 5, none⟩ = some (.int .i64 i1) ∧ w'.cell? ⟨b', off' + j * 5 + 1, none⟩ = some (.string n1) ∧ w'.cell? ⟨b', off' + j * 5 + 2, none⟩ = some (.int .i64 r1) ∧ w'.cell? ⟨b', off' + j * 5 + 3, none⟩ = some (.int .i64 k1) ∧ w'.cell? ⟨b', off' + j * 5 + 4, none⟩ = some v1') [11] (by kernel_rfl) ?_ (fun hSh => ?_)
        · exact ⟨c4, d4, e0, e1, e2, e3, e4, g0, g1, g2, g3, g4⟩
        refine n_take (v := ?_) 0 rfl (Or.inl ⟨by rfl, ?_⟩) (by kernel_rfl) (fun _ _ _ h => h) (by assumption) ?_
        rotate_left 1
        · (intro w' hSw; (try dsimp only at hSw); go_simp; try with_reducible rfl)
        simp only [Act.put, List.getElem_toArray, List.getElem_cons_zero, List.setIfInBounds_toArray, List.set_cons_zero, List.set_cons_succ]
        refine n_take (v := ?_) 1 rfl (Or.inl ⟨by rfl, ?_⟩) (by kernel_rfl) (fun _ _ _ h => h) (by assumption) ?_
        rotate_left 1
        · (intro w' hSw; (try dsimp only at hSw); go_simp; try with_reducible rfl)
        simp only [Act.put, List.getElem_toArray, List.getElem_cons_zero, List.getElem_cons_succ, List.setIfInBounds_toArray, List.set_cons_zero, List.set_cons_succ]
        refine n_take (v := ?_) 2 rfl (Or.inl ⟨by rfl, ?_⟩) (by kernel_rfl) (fun _ _ _ h => h) (by assumption) ?_
        rotate_left 1
        · (intro w' hSw; (try dsimp only at hSw); go_simp; try with_reducible rfl)
        simp only [Act.put, List.getElem_toArray, List.getElem_cons_zero, List.getElem_cons_succ, List.setIfInBounds_toArray, List.set_cons_zero, List.set_cons_succ]
        refine n_take (v := ?_) 3 rfl (Or.inl ⟨by rfl, ?_⟩) (by kernel_rfl) (fun _ _ _ h => h) (by assumption) ?_
        rotate_left 1
        · (intro w' hSw; (try dsimp only at hSw); go_simp; try with_reducible rfl)
        simp only [Act.put, List.getElem_toArray, List.getElem_cons_zero, List.getElem_cons_succ, List.setIfInBounds_toArray, List.set_cons_zero, List.set_cons_succ]
        refine n_take (v := ?_) 4 rfl (Or.inl ⟨by rfl, ?_⟩) (by kernel_rfl) (fun _ _ _ h => h) (by assumption) ?_
        rotate_left 1
        · (intro w' hSw; (try dsimp only at hSw); go_simp; try with_reducible rfl)
        simp only [Act.put, List.getElem_toArray, List.getElem_cons_zero, List.getElem_cons_succ, List.setIfInBounds_toArray, List.set_cons_zero, List.set_cons_succ]
        refine n_take (v := ?_) 5 rfl (Or.inl ⟨by rfl, ?_⟩) (by kernel_rfl) (fun _ _ _ h => h) (by assumption) ?_
        rotate_left 1
        · (intro w' hSw; (try dsimp only at hSw); go_simp; try with_reducible rfl)
        simp only [Act.put, List.getElem_toArray, List.getElem_cons_zero, List.getElem_cons_succ, List.setIfInBounds_toArray, List.set_cons_zero, List.set_cons_succ]
        refine n_take (v := ?_) 6 rfl (Or.inl ⟨by rfl, ?_⟩) (by kernel_rfl) (fun _ _ _ h => h) (by assumption) ?_
        rotate_left 1
        · (intro w' hSw; (try dsimp only at hSw); go_simp; try with_reducible rfl)
        simp only [Act.put, List.getElem_toArray, List.getElem_cons_zero, List.getElem_cons_succ, List.setIfInBounds_toArray, List.set_cons_zero, List.set_cons_succ]
        refine n_take (v := ?_) 7 rfl (Or.inl ⟨by rfl, ?_⟩) (by kernel_rfl) (fun _ _ _ h => h) (by assumption) ?_
        rotate_left 1
        · (intro w' hSw; (try dsimp only at hSw); go_simp; try with_reducible rfl)
        simp only [Act.put, List.getElem_toArray, List.getElem_cons_zero, List.getElem_cons_succ, List.setIfInBounds_toArray, List.set_cons_zero, List.set_cons_succ]
        refine n_take (v := ?_) 8 rfl (Or.inl ⟨by rfl, ?_⟩) (by kernel_rfl) (fun _ _ _ h => h) (by assumption) ?_
        rotate_left 1
        · (intro w' hSw; (try dsimp only at hSw); go_simp; try with_reducible rfl)
        simp only [Act.put, List.getElem_toArray, List.getElem_cons_zero, List.getElem_cons_succ, List.setIfInBounds_toArray, List.set_cons_zero, List.set_cons_succ]
        refine n_take (v := ?_) 9 rfl (Or.inl ⟨by rfl, ?_⟩) (by kernel_rfl) (fun _ _ _ h => h) (by assumption) ?_
        rotate_left 1
        · (intro w' hSw; (try dsimp only at hSw); go_simp; try with_reducible rfl)
        simp only [Act.put, List.getElem_toArray, List.getElem_cons_zero, List.getElem_cons_succ, List.setIfInBounds_toArray, List.set_cons_zero, List.set_cons_succ]
        refine n_step 10 rfl (by kernel_rfl) ?_
        go_wp2_with fail
        refine (ih (.mk i1 n1 r1 k1 s1) wr.drew S S' _ _ ?_ (hre.chg0 hc.drew) (hre'.chg0 hc.drew) hok1).mono ?_
        · simp only [Nd.weigh] at hm hw1 ⊢; omega
        rintro e w1 ⟨rfl, hc1⟩
        replace hc1 := hc1.ofDrew
        go_wp2_with fail
        refine ⟨fun _ => ?_, fun hSk => ?_⟩
        · (repeat' refine And.intro ?_ ?_) <;> exact (hc1.cell (by first | assumption | (simp; done) | (simp; omega) | omega) NoB.elim).trans (by assumption)
        replace hSk := hSk (by rfl)
        refine n_step 11 rfl (by kernel_rfl) ?_
        go_wp2_with fail
        refine ⟨fun hx => absurd hx (by decide), fun _ => ?_⟩
        refine n_done (by kernel_rfl) ?_
        go_wp2_with fail
        go_roundw
        case rel => exact ⟨j + 1, hlt, by go_num, hc.tr hc1, hb0.keep hc1 NoB.elim, hb1.keep hc1 NoB.elim⟩
        case measure => simp [intOf]; omega
      · go_wp2_with fail
        go_ret
        exact ⟨rfl, hc⟩
end Go.Proofs.YtfbbfhhhfbibjaaGreatDoor
