/-
  schema.Copy: a node of its own, all the way down.
-/
import Derived.Test.YtfbbfhhhfbibjaaGreatDoorOwnNode
namespace Go.Proofs.YtfbbfhhhfbibjaaGreatDoor
open Go.RowKit

/-- What holds at the head of each round. -/
def CopyRel (w : World) (i : Int) (n : ByteArray) (r k : Int) (s : List Nd) (sv : Value) (vl vi : Value) (wr : World) : Prop :=
  ∃ j ao cap, j ≤ s.length ∧ vi = .int .i64 (j : Nat) ∧ vl = .slice ao j cap ∧ Chg NoB w wr ∧ Blk wr w.heap.size (ndCells i n r k sv) 24 ∧
    Blk wr (w.heap.size + 1) (ndCells 0 ⟨#[]⟩ 0 0 (.slice none 0 0)) 24 ∧ Own wr (w.heap.size + 2) 24 5 (fun b => w.heap.size + 2 ≤ b) vl ((s.take j).map Nd.dt)

set_option maxHeartbeats 1000000 in
theorem copy_any : ∀ (m : Nat) (nd : Nd) (w : World) (S : Nat → Prop) (cs : List Value), nd.weigh ≤ m → Reads w S nd.dt cs → nd.ok →
    Calls Tryz.prog 61 #[.agg cs.toArray] w (RetNew nd.dt w) := by
  intro m
  induction m with
  | zero => intro nd w S cs hm; cases nd; simp [Nd.weigh] at hm
  | succ m ih =>
    intro nd w S cs hm hr hok
    obtain ⟨i, n, r, k, s⟩ := nd
    obtain ⟨sv, rfl, hs⟩ := reads_nd.1 hr
    obtain ⟨sa, cap, rfl, hlen, hcap, hel⟩ := reads_subs hs
    obtain ⟨hi, hn, hrr, hk, hsl, hoks⟩ := hok
    have Hih := Lib.hid ih
    clear ih
    unfold reach at hsl
    go_enter Tryz.func61, Tryz.ntmps61
    go_wp2_with fail
    go_loopw [3, 9] (fun vl vi wr => CopyRel w i n r k s (.slice sa s.length cap) vl vi wr) (fun _ vi _ => s.length - (intOf vi).toNat)
    case atStart =>
      refine ⟨0, none, 0, Nat.zero_le _, rfl, rfl, ((Chg.refl _ _).alloc _).alloc _, (Blk.newAt rfl).alloc _, Blk.newAt (by simp), Own.nil _ _ _ _ _⟩
    case round =>
      obtain ⟨j, ao, ac, hj, rfl, rfl, hc, hb0, hb1, ho⟩ := hrel
      have hsz : w.heap.size + 2 ≤ wr.heap.size := hb1.lt
      by_cases hlt : j < s.length
      · obtain ⟨b, off, rfl, hSb, hbw, hE⟩ := hel (by omega)
        obtain ⟨ecs, hl5, hcells, hre⟩ := hE.get j s[j].dt (by simp [hlt])
        have hmem : s[j] ∈ s := List.getElem_mem hlt
        have hw1 := Nd.weigh_mem hmem
        have hok1 := Nd.oks_mem hoks _ hmem
        have htake : s.take (j + 1) = s.take j ++ [s[j]] := List.take_succ_eq_append_getElem hlt
        have Htake := Lib.hid htake
        clear htake
        generalize s[j] = nj at hre hw1 hok1 Htake
        obtain ⟨i1, n1, r1, k1, s1⟩ := nj
        obtain ⟨v1, rfl, hs1⟩ := reads_nd.1 hre
        obtain ⟨sa1, cap1, rfl, _, _, _⟩ := reads_subs hs1
        have ef : ∀ t c, [Value.int .i64 i1, .string n1, .int .i64 r1, .int .i64 k1, (.slice sa1 s1.length cap1)][t]? = some c → wr.cell? ⟨b, off + j * 5 + t, none⟩ = some c := fun t c ht => (hc.cell (p := ⟨b, off + j * 5 + t, none⟩) hbw (fun e => e)).trans (hcells t c ht)
        have e0 : wr.cell? ⟨b, off + j * 5, none⟩ = some (.int .i64 i1) := ef 0 _ rfl
        have e1 : wr.cell? ⟨b, off + j * 5 + 1, none⟩ = some (.string n1) := ef 1 _ rfl
        have e2 : wr.cell? ⟨b, off + j * 5 + 2, none⟩ = some (.int .i64 r1) := ef 2 _ rfl
        have e3 : wr.cell? ⟨b, off + j * 5 + 3, none⟩ = some (.int .i64 k1) := ef 3 _ rfl
        have e4 : wr.cell? ⟨b, off + j * 5 + 4, none⟩ = some (.slice sa1 s1.length cap1) := ef 4 _ rfl
        clear ef
        go_wp2_with fail
        generalize hw3 : wr.alloc _ = w3
        have hc3 : Chg NoB wr w3 := by
          rw [← hw3]
          repeat (first | exact Chg.refl _ _ | apply Chg.alloc | apply Chg.drew)
        clear hw3
        refine (Hih.out (.mk i1 n1 r1 k1 s1) w3 S _ ?_ (hre.chg0 (hc.tr hc3)) hok1).mono ?_
        · simp only [Nd.weigh] at hm hw1 ⊢; omega
        rintro en w4 ⟨cs4, rfl, hr4, hc4⟩
        obtain ⟨v4, rfl, hs4⟩ := reads_nd.1 hr4
        obtain ⟨sa4, cap4, rfl, _, _, _⟩ := reads_subs hs4
        have hc34 := hc3.tr hc4
        go_wp2_with (at_builtin; refine stop_here ?_)
        refine Stop.go ?_
        generalize hwA : w4.alloc _ = wA
        have hcA : Chg NoB w4 wA := by
          rw [← hwA]
          repeat (first | exact Chg.refl _ _ | apply Chg.alloc | apply Chg.drew)
        have hbA : Blk wA (w4.heap.size) ([.int .i64 i1, .string n1, .int .i64 r1, .int .i64 k1, .slice sa4 s1.length cap4]) 24 := by
          rw [← hwA]
          repeat (first | exact Blk.newAt (by first | rfl | (simp; done) | (simp; omega)) | apply Blk.alloc | apply Blk.drew)
        clear hwA
        have hcrA := hc34.tr hcA
        have hoA := ho.keep hcrA (fun _ _ => NoB.elim) (fun _ _ => NoB.elim)
        have hrA := hr4.chg0 hcA
        have hlenT : ((s.take j).map Nd.dt).length = j := by simp; omega
        have hszA := hcrA.size
        refine wpList_own rfl (.tmp 13) (.tmp 16) 22 rfl (w.heap.size + 2) 24 Tryz.underlying22 infoNode rfl (by decide) rfl hoA rfl [Nd.dt (.mk i1 n1 r1 k1 s1)] _ rfl (ReadsC.single rfl (hrA.mono ?_)) hbA.news (fun e => by cases e) ?_ ?_ ?_ ?_
        · intro x hx
          have hx : w3.heap.size ≤ x := hx
          have := hc3.size
          exact ⟨by omega, fun e => by have := (ho.block x e).2; omega⟩
        · rw [hlenT]; unfold maxLen; omega
        · rw [hlenT]; omega
        · omega
        intro ao2 cap2 wB hoB hcB hatB
        rw [hlenT] at hoB hatB ⊢
        have hcrB : Chg NoB w wB := (hc.tr hcrA).trans hcB (fun x e => .inr (by have := (ho.block x e).1; omega))
        have hbB0 := (hb0.keep hcrA NoB.elim).keep hcB (fun e => by have := (ho.block _ e).1; omega)
        have hbB1 := (hb1.keep hcrA NoB.elim).keep hcB (fun e => by have := (ho.block _ e).1; omega)
        go_wp2_with fail
        go_roundw
        case rel =>
          refine ⟨j + 1, ao2, cap2, hlt, by go_num, rfl, hcrB, hbB0, hbB1, ?_⟩
          rw [Htake.out, List.map_append]
          exact hoB
        case measure => simp [intOf]; omega
      · have hjl : j = s.length := by omega
        subst hjl
        rw [List.take_length] at ho
        have c0 : wr.cell? ⟨w.heap.size, 0, none⟩ = some (.int .i64 (i)) := hb0.cell 0
        have c1 : wr.cell? ⟨w.heap.size, 1, none⟩ = some (.string n) := hb0.cell 1
        have c2 : wr.cell? ⟨w.heap.size, 2, none⟩ = some (.int .i64 (r)) := hb0.cell 2
        have c3 : wr.cell? ⟨w.heap.size, 3, none⟩ = some (.int .i64 (k)) := hb0.cell 3
        have c4 : wr.cell? ⟨w.heap.size, 4, none⟩ = some (.slice sa s.length cap) := hb0.cell 4
        have d0 : wr.cell? ⟨w.heap.size + 1, 0, none⟩ = some (.int .i64 (0)) := hb1.cell 0
        have d1 : wr.cell? ⟨w.heap.size + 1, 1, none⟩ = some (.string ⟨#[]⟩) := hb1.cell 1
        have d2 : wr.cell? ⟨w.heap.size + 1, 2, none⟩ = some (.int .i64 (0)) := hb1.cell 2
        have d3 : wr.cell? ⟨w.heap.size + 1, 3, none⟩ = some (.int .i64 (0)) := hb1.cell 3
        have d4 : wr.cell? ⟨w.heap.size + 1, 4, none⟩ = some (.slice none 0 0) := hb1.cell 4
        have f0 : wr.frozen? ⟨w.heap.size, 0, none⟩ = false := hb0.free 0
        have f1 : wr.frozen? ⟨w.heap.size, 1, none⟩ = false := hb0.free 1
        have f2 : wr.frozen? ⟨w.heap.size, 2, none⟩ = false := hb0.free 2
        have f3 : wr.frozen? ⟨w.heap.size, 3, none⟩ = false := hb0.free 3
        have f4 : wr.frozen? ⟨w.heap.size, 4, none⟩ = false := hb0.free 4
        have g0 : wr.frozen? ⟨w.heap.size + 1, 0, none⟩ = false := hb1.free 0
        have g1 : wr.frozen? ⟨w.heap.size + 1, 1, none⟩ = false := hb1.free 1
        have g2 : wr.frozen? ⟨w.heap.size + 1, 2, none⟩ = false := hb1.free 2
        have g3 : wr.frozen? ⟨w.heap.size + 1, 3, none⟩ = false := hb1.free 3
        have g4 : wr.frozen? ⟨w.heap.size + 1, 4, none⟩ = false := hb1.free 4
        go_wp2_with fail
        have hcf := (((((hc.setCell (p := ⟨w.heap.size, 4, none⟩) (.inr (by dsimp only; omega)) (.slice ao s.length ac)).setCell (p := ⟨w.heap.size + 1, 0, none⟩) (.inr (by dsimp only; omega)) (.int .i64 i)).setCell (p := ⟨w.heap.size + 1, 1, none⟩) (.inr (by dsimp only; omega)) (.string n)).setCell (p := ⟨w.heap.size + 1, 2, none⟩) (.inr (by dsimp only; omega)) (.int .i64 r)).setCell (p := ⟨w.heap.size + 1, 3, none⟩) (.inr (by dsimp only; omega)) (.int .i64 k)).setCell (p := ⟨w.heap.size + 1, 4, none⟩) (.inr (by dsimp only; omega)) (.slice ao s.length ac)
        have hbf : Blk _ (w.heap.size + 1) (ndCells i n r k (.slice ao s.length ac)) 24 := (((((hb1.other (p := ⟨w.heap.size, 4, none⟩) (by dsimp only; omega) (.slice ao s.length ac)).set 0 (.int .i64 i)).set 1 (.string n)).set 2 (.int .i64 r)).set 3 (.int .i64 k)).set 4 (.slice ao s.length ac)
        have hof := (((((ho.setCell (p := ⟨w.heap.size, 4, none⟩) (fun b hb => by dsimp only; omega) (by dsimp only; omega) (.slice ao s.length ac)).setCell (p := ⟨w.heap.size + 1, 0, none⟩) (fun b hb => by dsimp only; omega) (by dsimp only; omega) (.int .i64 i)).setCell (p := ⟨w.heap.size + 1, 1, none⟩) (fun b hb => by dsimp only; omega) (by dsimp only; omega) (.string n)).setCell (p := ⟨w.heap.size + 1, 2, none⟩) (fun b hb => by dsimp only; omega) (by dsimp only; omega) (.int .i64 r)).setCell (p := ⟨w.heap.size + 1, 3, none⟩) (fun b hb => by dsimp only; omega) (by dsimp only; omega) (.int .i64 k)).setCell (p := ⟨w.heap.size + 1, 4, none⟩) (fun b hb => by dsimp only; omega) (by dsimp only; omega) (.slice ao s.length ac)
        generalize hWf : World.setCell _ _ (Value.slice ao s.length ac) = wf at hbf hcf hof ⊢
        have h0 : wf.cell? ⟨w.heap.size + 1, 0, none⟩ = some (.int .i64 (i)) := hbf.cell 0
        have h1 : wf.cell? ⟨w.heap.size + 1, 1, none⟩ = some (.string n) := hbf.cell 1
        have h2 : wf.cell? ⟨w.heap.size + 1, 2, none⟩ = some (.int .i64 (r)) := hbf.cell 2
        have h3 : wf.cell? ⟨w.heap.size + 1, 3, none⟩ = some (.int .i64 (k)) := hbf.cell 3
        have h4 : wf.cell? ⟨w.heap.size + 1, 4, none⟩ = some (.slice ao s.length ac) := hbf.cell 4
        refine bodyPost_ret (v := .agg #[.int .i64 i, .string n, .int .i64 r, .int .i64 k, .slice ao s.length ac]) (by simp [results, Tryz.results61, go_sem, h0, h1, h2, h3, h4]) rfl ⟨_, rfl, ?_, hcf⟩
        refine reads_nd.2 ⟨_, rfl, ?_⟩
        rw [Nd.dts_eq]
        refine hof.reads (fun b hb => ?_) (fun b hb _ => ?_) ?_
        · have hb : w.heap.size + 2 ≤ b := hb
          omega
        · omega
        · simp [maxLen]; omega
end Go.Proofs.YtfbbfhhhfbibjaaGreatDoor
