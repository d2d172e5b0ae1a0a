/-
  The copy of a node (shredcolref2.OwnNode): for every node that lies in memory she hands back a new one that reads the same; nothing that was there has changed.
-/
import Derived.Test.YtfbbfhhhfbibjaaGreatDoorProg
import Derived.Test.YtfbbfhhhfbibjaaGreatDoorNode
import Derived.Test.YtfbbfhhhfbibjaaGreatDoorRegion
import Derived.Handy
namespace Go.Proofs.YtfbbfhhhfbibjaaGreatDoor
open Go.RowKit

theorem infoNode : (Tryz.prog.info? 24).map (fun i => (i.zero, i.size, i.bytes)) = some (some (.agg #[.int .i64 0, .string ⟨#[]⟩, .int .i64 0, .int .i64 0, .slice none 0 0]), 5, 64) := by kernel_rfl

/-- A struct result: new memory; nothing else has changed. -/
def RetNew (d : Dt) (w : World) (e : Ending) (w' : World) : Prop :=
  ∃ cs, e = .returned (.agg cs.toArray) ∧ Reads w' (fun b => w.heap.size ≤ b) d cs ∧ Chg NoB w w'

/-- What holds at the head of each round. -/
def OwnRel (w : World) (i : Int) (n : ByteArray) (r k : Int) (s : List Nd) (sv : Value) (vi : Value) (wr : World) : Prop :=
  ∃ j v, j ≤ s.length ∧ vi = .int .i64 (j : Nat) ∧ Chg NoB w wr ∧ Blk wr w.heap.size (ndCells i n r k sv) 24 ∧
    Blk wr (w.heap.size + 1) (ndCells 0 ⟨#[]⟩ 0 0 (.slice none 0 0)) 24 ∧ Blk wr (w.heap.size + 1 + 1) (ndCells i n r k v) 24 ∧
    Own wr (w.heap.size + 3) 24 5 (fun b => w.heap.size + 3 ≤ b) v (Nd.dts (s.take j))

set_option maxHeartbeats 1000000 in
theorem ownNode_any : ∀ (m : Nat) (nd : Nd) (w : World) (S : Nat → Prop) (cs : List Value), nd.weigh ≤ m → Reads w S nd.dt cs → nd.ok →
    Calls Tryz.prog 12 #[.agg cs.toArray] w (RetNew nd.dt w) := by
  intro m
  induction m with
  | zero => intro nd w S cs hm; cases nd; simp [Nd.weigh] at hm
  | succ m ih =>
    intro nd w S cs hm hr hok
    obtain ⟨i, n, r, k, s⟩ := nd
    obtain ⟨sv, rfl, hs⟩ := reads_nd.1 hr
    obtain ⟨a, cap, rfl, hlen, hcap, hel⟩ := reads_list hs
    obtain ⟨hi, hn, hrr, hk, hsl, hoks⟩ := hok
    simp only [Nd.dts_eq, List.length_map] at hlen hel ⊢
    go_enter Tryz.func12, Tryz.ntmps12
    go_wp2_with fail
    go_loopw [4] (fun vi wr => OwnRel w i n r k s (.slice a s.length cap) vi wr) (fun vi _ => s.length - (intOf vi).toNat)
    case atStart =>
      refine ⟨0, _, Nat.zero_le _, rfl, ?_, ?_, ?_, ?_, by simpa [Nd.dts] using Own.nil _ _ _ _ _⟩
      · exact (((Chg.refl _ _).alloc _).alloc _).alloc _
      · exact ((Blk.newAt rfl).alloc _).alloc _
      · exact (Blk.newAt (by simp)).alloc _
      · exact Blk.newAt (by simp)
    case round =>
      obtain ⟨j, v, hj, rfl, hc, hb0, hb1, hb2, ho⟩ := hrel
      have c4 : wr.cell? ⟨w.heap.size, 4, none⟩ = some (.slice a s.length cap) := hb0.cell 4
      have hsz : w.heap.size + 3 ≤ wr.heap.size := hb2.lt
      unfold reach at hsl
      by_cases hlt : j < s.length
      · obtain ⟨b, off, rfl, hSb, hbw, hE⟩ := hel (by omega)
        obtain ⟨ecs, hl5, hcells, hre⟩ := hE.get j s[j].dt (by simp [hlt])
        have hmem : s[j] ∈ s := List.getElem_mem hlt
        have hw1 := Nd.weigh_mem hmem
        have hok1 := Nd.oks_mem hoks _ hmem
        have htake : s.take (j + 1) = s.take j ++ [s[j]] := List.take_succ_eq_append_getElem hlt
        have Htake := Lib.hid htake
        clear htake
        generalize s[j] = nj at hre hw1 hok1 Htake
        obtain ⟨i1, n1, r1, k1, s1⟩ := nj
        obtain ⟨v1, rfl, hs1⟩ := reads_nd.1 hre
        have hf : ∀ t c, [Value.int .i64 i1, .string n1, .int .i64 r1, .int .i64 k1, v1][t]? = some c → wr.cell? ⟨b, off + j * 5 + t, none⟩ = some c := fun t c ht => (hc.cell (p := ⟨b, off + j * 5 + t, none⟩) hbw (fun e => e)).trans (hcells t c ht)
        have e0 : wr.cell? ⟨b, off + j * 5, none⟩ = some (.int .i64 i1) := hf 0 _ rfl
        have e1 : wr.cell? ⟨b, off + j * 5 + 1, none⟩ = some (.string n1) := hf 1 _ rfl
        have e2 : wr.cell? ⟨b, off + j * 5 + 2, none⟩ = some (.int .i64 r1) := hf 2 _ rfl
        have e3 : wr.cell? ⟨b, off + j * 5 + 3, none⟩ = some (.int .i64 k1) := hf 3 _ rfl
        have e4 : wr.cell? ⟨b, off + j * 5 + 4, none⟩ = some v1 := hf 4 _ rfl
        have o4 : wr.cell? ⟨w.heap.size + 1 + 1, 4, none⟩ = some v := hb2.cell 4
        clear hf hcells
        go_wp2_with fail
        refine wp_region_n (fun w' => w'.cell? ⟨w.heap.size, 4, none⟩ = some (.slice (some ⟨b, off, none⟩) s.length cap) ∧ w'.cell? ⟨w.heap.size + 1 + 1, 4, none⟩ = some v ∧ w'.cell? ⟨b, off + j * 5, none⟩ = some (.int .i64 i1) ∧ w'.cell? ⟨b, off + j * 5 + 1, none⟩ = some (.string n1) ∧ w'.cell? ⟨b, off + j * 5 + 2, none⟩ = some (.int .i64 r1) ∧ w'.cell? ⟨b, off + j * 5 + 3, none⟩ = some (.int .i64 k1) ∧ w'.cell? ⟨b, off + j * 5 + 4, none⟩ = some v1) [11] (by kernel_rfl) ?_ (fun hSh => ?_)
        · exact ⟨c4, o4, e0, e1, e2, e3, e4⟩
        refine n_take (v := ?_) 0 rfl (Or.inl ⟨by rfl, ?_⟩) (by kernel_rfl) (fun _ _ _ h => h) (by assumption) ?_
        rotate_left 1
        · (intro w' hSw; (try dsimp only at hSw); go_simp; try with_reducible rfl)
        simp only [Act.put, List.getElem_toArray, List.getElem_cons_zero, List.setIfInBounds_toArray, List.set_cons_zero, List.set_cons_succ]
        refine n_take (v := ?_) 1 rfl (Or.inl ⟨by rfl, ?_⟩) (by kernel_rfl) (fun _ _ _ h => h) (by assumption) ?_
        rotate_left 1
        · (intro w' hSw; (try dsimp only at hSw); go_simp; try with_reducible rfl)
        simp only [Act.put, List.getElem_toArray, List.getElem_cons_zero, List.getElem_cons_succ, List.setIfInBounds_toArray, List.set_cons_zero, List.set_cons_succ]
        refine n_take (v := ?_) 2 rfl (Or.inl ⟨by rfl, ?_⟩) (by kernel_rfl) (fun _ _ _ h => h) (by assumption) ?_
        rotate_left 1
        · (intro w' hSw; (try dsimp only at hSw); go_simp; try with_reducible rfl)
        simp only [Act.put, List.getElem_toArray, List.getElem_cons_zero, List.getElem_cons_succ, List.setIfInBounds_toArray, List.set_cons_zero, List.set_cons_succ]
        refine n_take (v := ?_) 3 rfl (Or.inl ⟨by rfl, ?_⟩) (by kernel_rfl) (fun _ _ _ h => h) (by assumption) ?_
        rotate_left 1
        · (intro w' hSw; (try dsimp only at hSw); go_simp; try with_reducible rfl)
        simp only [Act.put, List.getElem_toArray, List.getElem_cons_zero, List.getElem_cons_succ, List.setIfInBounds_toArray, List.set_cons_zero, List.set_cons_succ]
        refine n_take (v := ?_) 4 rfl (Or.inl ⟨by rfl, ?_⟩) (by kernel_rfl) (fun _ _ _ h => h) (by assumption) ?_
        rotate_left 1
        · (intro w' hSw; (try dsimp only at hSw); go_simp; try with_reducible rfl)
        simp only [Act.put, List.getElem_toArray, List.getElem_cons_zero, List.getElem_cons_succ, List.setIfInBounds_toArray, List.set_cons_zero, List.set_cons_succ]
        refine n_take (v := ?_) 5 rfl (Or.inl ⟨by rfl, ?_⟩) (by kernel_rfl) (fun _ _ _ h => h) (by assumption) ?_
        rotate_left 1
        · (intro w' hSw; (try dsimp only at hSw); go_simp; try with_reducible rfl)
        simp only [Act.put, List.getElem_toArray, List.getElem_cons_zero, List.getElem_cons_succ, List.setIfInBounds_toArray, List.set_cons_zero, List.set_cons_succ]
        refine n_take (v := ?_) 6 rfl (Or.inl ⟨by rfl, ?_⟩) (by kernel_rfl) (fun _ _ _ h => h) (by assumption) ?_
        rotate_left 1
        · (intro w' hSw; (try dsimp only at hSw); go_simp; try with_reducible rfl)
        simp only [Act.put, List.getElem_toArray, List.getElem_cons_zero, List.getElem_cons_succ, List.setIfInBounds_toArray, List.set_cons_zero, List.set_cons_succ]
        refine n_step 7 rfl (by kernel_rfl) ?_
        go_wp2_with fail
        refine (ih (.mk i1 n1 r1 k1 s1) wr.drew S _ ?_ ?_ hok1).mono ?_
        · simp only [Nd.weigh] at hm hw1 ⊢; omega
        · exact hre.chg0 hc.drew
        rintro e w1 ⟨ecs, rfl, hr1, hc1⟩
        obtain ⟨v2, rfl, hs2⟩ := reads_nd.1 hr1
        obtain ⟨a2, cap2, rfl, hlen2, hcap2, hel2⟩ := reads_list hs2
        go_wp2_with fail
        refine ⟨fun _ => ?_, fun hSk => ?_⟩
        · (repeat' refine And.intro ?_ ?_) <;> exact (hc1.cell (by first | assumption | (simp; done) | (simp; omega) | omega) (fun e => e)).trans (by assumption)
        replace hSk := hSk (by rfl)
        refine n_step 8 rfl (by kernel_rfl) ?_
        go_wp2_with fail
        have hc2 := hc1.ofDrew.alloc (.cells #[.int .i64 i1, .string n1, .int .i64 r1, .int .i64 k1, .slice a2 (Nd.dts s1).length cap2] 24)
        have hbn := Blk.new w1 [.int .i64 i1, .string n1, .int .i64 r1, .int .i64 k1, .slice a2 (Nd.dts s1).length cap2] 24
        generalize hW2 : w1.alloc _ = w2 at hc2 hbn
        have hr2 := hr1.chg0 (w' := w2) (hW2 ▸ (Chg.refl _ _).alloc _)
        have ho2 := ho.keep hc2 (fun _ _ e => NoB.elim e) (fun _ _ e => NoB.elim e)
        have hob := ho.block
        refine ⟨fun _ => ?_, fun hSk => ?_⟩
        · (repeat' refine And.intro ?_ ?_) <;> exact (hc2.cell (by first | assumption | (simp; done) | (simp; omega) | omega) (fun e => e)).trans (by assumption)
        replace hSk := hSk (by rfl)
        refine n_step 9 rfl (by kernel_rfl) ?_
        refine wpList_own rfl (.tmp 22) (.tmp 29) 22 rfl (w.heap.size + 3) 24 Tryz.underlying22 infoNode rfl (by decide) rfl ho2 rfl [Nd.dt (.mk i1 n1 r1 k1 s1)] _ rfl (ReadsC.single rfl (hr2.mono ?_)) hbn.news (fun e => by cases e) ?_ ?_ ?_ ?_
        · intro b hb
          have hb : wr.heap.size ≤ b := hb
          exact ⟨by omega, fun e => by have := (hob b e).2; omega⟩
        · simp [Nd.dts_eq, maxLen]; omega
        · simp [Nd.dts_eq]; omega
        · have := hc2.size; omega
        intro ao3 cap3 w3 ho3 hc3 hat
        have hfar : ∀ {x : Nat}, x < w.heap.size + 3 → ¬ (v.ownBlock = some x) := fun hx e => by have := (hob _ e).1; omega
        have hc13 : Chg NoB w w3 := (hc.trans hc2 (fun _ e => NoB.elim e)).trans hc3 (fun b e => .inr (by have := (hob b e).1; omega))
        have hb0 := (hb0.keep hc2 NoB.elim).keep hc3 (hfar (by omega))
        have hb1 := (hb1.keep hc2 NoB.elim).keep hc3 (hfar (by omega))
        have hb2 := (hb2.keep hc2 NoB.elim).keep hc3 (hfar (by omega))
        go_wp2_with fail
        have hc23 : Chg (fun b => v.ownBlock = some b) wr w3 := (hc2.mono (fun _ _ e => NoB.elim e)).trans hc3 (fun _ e => .inl e)
        refine ⟨fun _ => ?_, fun hSk => ?_⟩
        · (repeat' refine And.intro ?_ ?_) <;> exact (hc23.cell (by first | assumption | (simp; done) | (simp; omega) | omega) (hfar (by dsimp only; omega))).trans (by assumption)
        replace hSk := hSk (by rfl)
        refine n_take (v := ?_) 10 rfl (Or.inl ⟨by rfl, ?_⟩) (by kernel_rfl) (fun _ _ _ h => h) (by assumption) ?_
        rotate_left 1
        · (intro w' hSw; (try dsimp only at hSw); go_simp; try with_reducible rfl)
        simp only [Act.put, List.getElem_toArray, List.getElem_cons_zero, List.getElem_cons_succ, List.setIfInBounds_toArray, List.set_cons_zero, List.set_cons_succ]
        refine n_step 11 rfl (by kernel_rfl) ?_
        have o5 : w3.cell? ⟨w.heap.size + 1 + 1, 4, none⟩ = some v := hb2.cell 4
        have f5 : w3.frozen? ⟨w.heap.size + 1 + 1, 4, none⟩ = false := hb2.free 4
        clear hc2 hbn hc23
        go_wp2_with fail
        refine ⟨fun hx => absurd hx (by decide), fun _ => ?_⟩
        refine n_done (by kernel_rfl) ?_
        go_wp2_with fail
        go_roundw
        case rel =>
          refine ⟨j + 1, _, hlt, by go_num, hc13.setCell (.inr (by dsimp only; omega)) _, hb0.other (by dsimp only; omega) _, hb1.other (by dsimp only; omega) _, hb2.set 4 _, ?_⟩
          rw [Htake.out, Nd.dts_append]
          exact ho3.setCell (fun b hb => by have hb : w.heap.size + 3 ≤ b := hb; dsimp only; omega) (by dsimp only; omega) _
        case measure => simp [intOf]; omega
      · have hjl : j = s.length := by omega
        subst hjl
        rw [List.take_length] at ho
        obtain ⟨ao, cap', hv⟩ := ho.form
        subst hv
        have c20 : wr.cell? ⟨w.heap.size + 1 + 1, 0, none⟩ = some (.int .i64 (i)) := hb2.cell 0
        have c21 : wr.cell? ⟨w.heap.size + 1 + 1, 1, none⟩ = some (.string n) := hb2.cell 1
        have c22 : wr.cell? ⟨w.heap.size + 1 + 1, 2, none⟩ = some (.int .i64 (r)) := hb2.cell 2
        have c23 : wr.cell? ⟨w.heap.size + 1 + 1, 3, none⟩ = some (.int .i64 (k)) := hb2.cell 3
        have c24 : wr.cell? ⟨w.heap.size + 1 + 1, 4, none⟩ = some (.slice ao (Nd.dts s).length cap') := hb2.cell 4
        have c10 : wr.cell? ⟨w.heap.size + 1, 0, none⟩ = some (.int .i64 (0)) := hb1.cell 0
        have c11 : wr.cell? ⟨w.heap.size + 1, 1, none⟩ = some (.string ⟨#[]⟩) := hb1.cell 1
        have c12 : wr.cell? ⟨w.heap.size + 1, 2, none⟩ = some (.int .i64 (0)) := hb1.cell 2
        have c13 : wr.cell? ⟨w.heap.size + 1, 3, none⟩ = some (.int .i64 (0)) := hb1.cell 3
        have c14 : wr.cell? ⟨w.heap.size + 1, 4, none⟩ = some (.slice none 0 0) := hb1.cell 4
        have f10 : wr.frozen? ⟨w.heap.size + 1, 0, none⟩ = false := hb1.free 0
        have f11 : wr.frozen? ⟨w.heap.size + 1, 1, none⟩ = false := hb1.free 1
        have f12 : wr.frozen? ⟨w.heap.size + 1, 2, none⟩ = false := hb1.free 2
        have f13 : wr.frozen? ⟨w.heap.size + 1, 3, none⟩ = false := hb1.free 3
        have f14 : wr.frozen? ⟨w.heap.size + 1, 4, none⟩ = false := hb1.free 4
        go_wp2_with fail
        have hbf : Blk _ (w.heap.size + 1) (ndCells i n r k (.slice ao (Nd.dts s).length cap')) 24 := ((((hb1.set 0 (.int .i64 i)).set 1 (.string n)).set 2 (.int .i64 r)).set 3 (.int .i64 k)).set 4 (.slice ao (Nd.dts s).length cap')
        have hcf := ((((hc.setCell (p := ⟨w.heap.size + 1, 0, none⟩) (.inr (by dsimp only; omega)) (.int .i64 i)).setCell (p := ⟨w.heap.size + 1, 1, none⟩) (.inr (by dsimp only; omega)) (.string n)).setCell (p := ⟨w.heap.size + 1, 2, none⟩) (.inr (by dsimp only; omega)) (.int .i64 r)).setCell (p := ⟨w.heap.size + 1, 3, none⟩) (.inr (by dsimp only; omega)) (.int .i64 k)).setCell (p := ⟨w.heap.size + 1, 4, none⟩) (.inr (by dsimp only; omega)) (.slice ao (Nd.dts s).length cap')
        have hof := ho.keep ((((((Chg.refl (OneB (w.heap.size + 1)) wr).setCell (p := ⟨w.heap.size + 1, 0, none⟩) (.inl rfl) (.int .i64 i)).setCell (p := ⟨w.heap.size + 1, 1, none⟩) (.inl rfl) (.string n)).setCell (p := ⟨w.heap.size + 1, 2, none⟩) (.inl rfl) (.int .i64 r)).setCell (p := ⟨w.heap.size + 1, 3, none⟩) (.inl rfl) (.int .i64 k)).setCell (p := ⟨w.heap.size + 1, 4, none⟩) (.inl rfl) (.slice ao (Nd.dts s).length cap'))
          (fun b hb e => by have hb : w.heap.size + 3 ≤ b := hb; have e : b = w.heap.size + 1 := e; omega) (fun b hb e => by have := (ho.block b hb).1; have e : b = w.heap.size + 1 := e; omega)
        generalize hWf : World.setCell _ _ (Value.slice ao (Nd.dts s).length cap') = wf at hbf hcf hof ⊢
        have g0 : wf.cell? ⟨w.heap.size + 1, 0, none⟩ = some (.int .i64 (i)) := hbf.cell 0
        have g1 : wf.cell? ⟨w.heap.size + 1, 1, none⟩ = some (.string n) := hbf.cell 1
        have g2 : wf.cell? ⟨w.heap.size + 1, 2, none⟩ = some (.int .i64 (r)) := hbf.cell 2
        have g3 : wf.cell? ⟨w.heap.size + 1, 3, none⟩ = some (.int .i64 (k)) := hbf.cell 3
        have g4 : wf.cell? ⟨w.heap.size + 1, 4, none⟩ = some (.slice ao (Nd.dts s).length cap') := hbf.cell 4
        refine bodyPost_ret (v := .agg #[.int .i64 i, .string n, .int .i64 r, .int .i64 k, .slice ao (Nd.dts s).length cap']) (by simp [results, Tryz.results12, go_sem, g0, g1, g2, g3, g4]) rfl ⟨_, rfl, ?_, hcf⟩
        refine reads_nd.2 ⟨_, rfl, hof.reads (fun b hb => ?_) (fun b hb _ => ?_) ?_⟩
        · have hb : w.heap.size + 3 ≤ b := hb
          omega
        · omega
        · simp [Nd.dts_eq]; omega
end Go.Proofs.YtfbbfhhhfbibjaaGreatDoor
