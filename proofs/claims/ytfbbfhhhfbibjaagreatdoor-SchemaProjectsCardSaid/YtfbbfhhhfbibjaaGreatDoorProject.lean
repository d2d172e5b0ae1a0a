/-
  schema.project and schema.Project.
-/
import Derived.Test.YtfbbfhhhfbibjaaGreatDoorPackF
set_option linter.unusedVariables false
set_option linter.unusedSimpArgs false
namespace Go.Proofs.YtfbbfhhhfbibjaaGreatDoor
open Go.RowKit

mutual
theorem projN_oks (ids : List Int) : ∀ n : Nd, n.ok → Nd.oks (projN ids n)
  | .mk i n r k s, h => by
    rcases projN_cases ids i n r k s with ⟨_, e⟩ | ⟨_, _, e⟩ | ⟨_, _, e⟩ <;> rw [e]
    · exact ⟨h, trivial⟩
    · trivial
    · obtain ⟨h1, h2, h3, h4, h5, h6⟩ := h
      have := projL_len ids s
      exact ⟨⟨h1, h2, h3, h4, by omega, projL_oks ids s h6⟩, trivial⟩
theorem projL_oks (ids : List Int) : ∀ l : List Nd, Nd.oks l → Nd.oks (projL ids l)
  | [], _ => trivial
  | n :: ns, h => by
    simp only [projL]
    exact oks_append _ _ (projN_oks ids n h.1) (projL_oks ids ns h.2)
theorem projL_len (ids : List Int) : ∀ l : List Nd, (projL ids l).length ≤ l.length
  | [] => Nat.le_refl _
  | .mk i n r k s :: ns => by
    have h1 := projL_len ids ns
    simp only [projL, List.length_append, List.length_cons]
    have h2 : (projN ids (.mk i n r k s)).length ≤ 1 := by
      rcases projN_cases ids i n r k s with ⟨_, e⟩ | ⟨_, _, e⟩ | ⟨_, _, e⟩ <;> rw [e] <;> simp
    omega
theorem oks_append : ∀ (a b : List Nd), Nd.oks a → Nd.oks b → Nd.oks (a ++ b)
  | [], b, _, hb => hb
  | x :: xs, b, ha, hb => ⟨ha.1, oks_append xs b ha.2 hb⟩
end

/-- What holds at the head of each round. -/
def ProjRel (w : World) (ids : List Int) (l : List Nd) (vl vi : Value) (wr : World) : Prop :=
  ∃ j ao cap, j ≤ l.length ∧ vi = .int .i64 (j : Nat) ∧ vl = .slice ao (projL ids (l.take j)).length cap ∧ Chg NoB w wr ∧
    Own wr w.heap.size 24 5 (fun b => w.heap.size ≤ b) vl ((projL ids (l.take j)).map Nd.dt)

set_option maxHeartbeats 1000000 in
theorem project_any (ids : List Int) (vi : Value) : ∀ (m : Nat) (l : List Nd) (v : Value) (w : World) (S T : Nat → Prop), Nd.weighs l < m → Reads w S (.list 5 (Nd.dts l)) [v] → Nd.oks l → l.length * 64 ≤ 140737488351232 →
    Reads w T (.list 1 (ids.map intDt)) [vi] → Calls Tryz.prog 64 #[v, vi] w (RetList 5 (fun _ => False) (Nd.dts (projL ids l)) w) := by
  intro m
  induction m with
  | zero => intro l v w S T hm; omega
  | succ m ih =>
    intro l v w S T hm hs hoks hsl hvi
    obtain ⟨sa, cap, rfl, hlen, hcap, hel⟩ := reads_subs hs
    obtain ⟨va, vc, rfl, _, _, _⟩ := reads_list hvi
    rw [List.length_map] at *
    have Hih := Lib.hid ih
    clear ih
    go_enter Tryz.func64, Tryz.ntmps64
    go_wp2_with fail
    go_loopw [5, 10] (fun vl vi wr => ProjRel w ids l vl vi wr) (fun _ vi _ => l.length - (intOf vi).toNat)
    case atStart => exact ⟨0, none, 0, Nat.zero_le _, rfl, rfl, Chg.refl _ _, Own.nil _ _ _ _ _⟩
    case round =>
      obtain ⟨j, ao, ac, hj, rfl, rfl, hc, ho⟩ := hrel
      by_cases hlt : j < l.length
      · obtain ⟨b, off, rfl, hSb, hbw, hE⟩ := hel (by omega)
        obtain ⟨ecs, hl5, hcells, hre⟩ := hE.get j l[j].dt (by simp [hlt])
        have hmem : l[j] ∈ l := List.getElem_mem hlt
        have hw1 := Nd.weigh_mem hmem
        have hok1 := Nd.oks_mem hoks _ hmem
        have htake : l.take (j + 1) = l.take j ++ [l[j]] := List.take_succ_eq_append_getElem hlt
        generalize l[j] = nj at hre hw1 hok1 htake
        have Htake := Lib.hid htake
        clear htake
        obtain ⟨i1, n1, r1, k1, s1⟩ := nj
        obtain ⟨v1, rfl, hs1⟩ := reads_nd.1 hre
        obtain ⟨sa1, cap1, rfl, _, _, _⟩ := reads_subs hs1
        have ef : ∀ t c, [Value.int .i64 i1, .string n1, .int .i64 r1, .int .i64 k1, (.slice sa1 s1.length cap1)][t]? = some c → wr.cell? ⟨b, off + j * 5 + t, none⟩ = some c := fun t c ht => (hc.cell (p := ⟨b, off + j * 5 + t, none⟩) hbw (fun e => e)).trans (hcells t c ht)
        have e0 : wr.cell? ⟨b, off + j * 5, none⟩ = some (.int .i64 i1) := ef 0 _ rfl
        have e1 : wr.cell? ⟨b, off + j * 5 + 1, none⟩ = some (.string n1) := ef 1 _ rfl
        have e2 : wr.cell? ⟨b, off + j * 5 + 2, none⟩ = some (.int .i64 r1) := ef 2 _ rfl
        have e3 : wr.cell? ⟨b, off + j * 5 + 3, none⟩ = some (.int .i64 k1) := ef 3 _ rfl
        have e4 : wr.cell? ⟨b, off + j * 5 + 4, none⟩ = some (.slice sa1 s1.length cap1) := ef 4 _ rfl
        clear ef
        go_wp2_with fail
        generalize hw3 : wr.alloc _ = w3
        have hc3 : Chg NoB wr w3 := by
          rw [← hw3]
          repeat (first | exact Chg.refl _ _ | apply Chg.alloc | apply Chg.drew)
        have hn3 : Blk w3 (wr.heap.size) (ndCells i1 n1 r1 k1 (.slice sa1 s1.length cap1)) 24 := by
          rw [← hw3]
          repeat (first | exact Blk.newAt (by first | rfl | (simp; done) | (simp; omega)) | apply Blk.alloc | apply Blk.drew)
        clear hw3
        have hvi3 := hvi.chg0 (hc.tr hc3)
        refine (containsI_any ids _ i1 hvi3).mono ?_
        rintro en w4 ⟨rfl, rfl⟩
        have x0 : w4.cell? ⟨wr.heap.size, 0, none⟩ = some (.int .i64 (i1)) := hn3.cell 0
        have x1 : w4.cell? ⟨wr.heap.size, 1, none⟩ = some (.string n1) := hn3.cell 1
        have x2 : w4.cell? ⟨wr.heap.size, 2, none⟩ = some (.int .i64 (r1)) := hn3.cell 2
        have x3 : w4.cell? ⟨wr.heap.size, 3, none⟩ = some (.int .i64 (k1)) := hn3.cell 3
        have x4 : w4.cell? ⟨wr.heap.size, 4, none⟩ = some (.slice sa1 s1.length cap1) := hn3.cell 4
        have z0 : w4.frozen? ⟨wr.heap.size, 0, none⟩ = false := hn3.free 0
        have z1 : w4.frozen? ⟨wr.heap.size, 1, none⟩ = false := hn3.free 1
        have z2 : w4.frozen? ⟨wr.heap.size, 2, none⟩ = false := hn3.free 2
        have z3 : w4.frozen? ⟨wr.heap.size, 3, none⟩ = false := hn3.free 3
        have z4 : w4.frozen? ⟨wr.heap.size, 4, none⟩ = false := hn3.free 4
        have ln3 := hn3.lt
        rcases hh : has ids i1 with _ | _
        · have hni := (has_not _ _).1 hh
          go_wp2_with fail
          refine (Hih.out s1 _ w4 S T ?_ (hs1.chg0 (hc.tr hc3)) hok1.2.2.2.2.2 hok1.2.2.2.2.1 hvi3).mono ?_
          · simp only [Nd.weigh] at hw1; omega
          rintro en w5 ⟨a5, c5, rfl, hrd5, hc5⟩
          rw [Nd.dts_eq, List.length_map] at hrd5 ⊢
          have hn5 := hn3.keep hc5 NoB.elim
          have hc35 := hc3.tr hc5
          clear x0 x1 x2 x3 x4 z0 z1 z2 z3 z4
          have x0 : w5.cell? ⟨wr.heap.size, 0, none⟩ = some (.int .i64 (i1)) := hn5.cell 0
          have x1 : w5.cell? ⟨wr.heap.size, 1, none⟩ = some (.string n1) := hn5.cell 1
          have x2 : w5.cell? ⟨wr.heap.size, 2, none⟩ = some (.int .i64 (r1)) := hn5.cell 2
          have x3 : w5.cell? ⟨wr.heap.size, 3, none⟩ = some (.int .i64 (k1)) := hn5.cell 3
          have x4 : w5.cell? ⟨wr.heap.size, 4, none⟩ = some (.slice sa1 s1.length cap1) := hn5.cell 4
          have z0 : w5.frozen? ⟨wr.heap.size, 0, none⟩ = false := hn5.free 0
          have z1 : w5.frozen? ⟨wr.heap.size, 1, none⟩ = false := hn5.free 1
          have z2 : w5.frozen? ⟨wr.heap.size, 2, none⟩ = false := hn5.free 2
          have z3 : w5.frozen? ⟨wr.heap.size, 3, none⟩ = false := hn5.free 3
          have z4 : w5.frozen? ⟨wr.heap.size, 4, none⟩ = false := hn5.free 4
          have ln5 := hn5.lt
          by_cases hz : projL ids s1 = []
          · have hN : projN ids (.mk i1 n1 r1 k1 s1) = [] := by
              rcases projN_cases ids i1 n1 r1 k1 s1 with ⟨h, _⟩ | ⟨_, _, h⟩ | ⟨_, h, _⟩
              · exact absurd h hni
              · exact h
              · exact absurd hz h
            have HN := Lib.hid hN
            rw [hz] at hrd5 ⊢
            clear hN hz
            go_wp2_with fail
            have hP : projL ids (l.take (j + 1)) = projL ids (l.take j) := by rw [Htake.out, projL_append, projL_one, HN.out, List.append_nil]
            have hc6 := hc35.setCell (p := ⟨wr.heap.size, 4, none⟩) (.inr (Nat.le_refl _)) (.slice a5 0 c5)
            refine ⟨⟨j + 1, ao, ac, hlt, by go_num, ?_, hc.tr hc6, ?_⟩, by simp [intOf]; omega⟩
            · rw [hP]
            · rw [hP]
              exact ho.keep hc6 (fun _ _ => NoB.elim) (fun _ _ => NoB.elim)
          · have hN : projN ids (.mk i1 n1 r1 k1 s1) = [.mk i1 n1 r1 k1 (projL ids s1)] := by
              rcases projN_cases ids i1 n1 r1 k1 s1 with ⟨h, _⟩ | ⟨_, h, _⟩ | ⟨_, _, h⟩
              · exact absurd h hni
              · exact absurd h hz
              · exact h
            have HN := Lib.hid hN
            have hnz : ¬ (((projL ids s1).length : Int) = 0) := fun e => hz (List.eq_nil_of_length_eq_zero (by omega))
            clear hN
            go_wp2_with fail
            have hc7 := hc35.setCell (p := ⟨wr.heap.size, 4, none⟩) (.inr (Nat.le_refl _)) (.slice a5 (projL ids s1).length c5)
            have hr7 : Reads (w5.setCell ⟨wr.heap.size, 4, none⟩ (.slice a5 (projL ids s1).length c5)) _ (Nd.dt (.mk i1 n1 r1 k1 (projL ids s1))) [.int .i64 i1, .string n1, .int .i64 r1, .int .i64 k1, .slice a5 (projL ids s1).length c5] :=
              reads_nd.2 ⟨_, rfl, by
                rw [Nd.dts_eq]
                refine hrd5.chg ((Chg.refl (OneB wr.heap.size) w5).setCell (p := ⟨wr.heap.size, 4, none⟩) (.inl rfl) _) (fun b hb e => ?_)
                have e : b = wr.heap.size := e
                rcases hb with hb | hb
                · exact hb.elim
                · omega⟩
            have hok7 : (Nd.mk i1 n1 r1 k1 (projL ids s1)).ok := by
              obtain ⟨h1, h2, h3, h4, h5, h6⟩ := hok1
              have := projL_len ids s1
              exact ⟨h1, h2, h3, h4, by omega, projL_oks ids s1 h6⟩
            have hsz7 := hc7.size
            generalize hw7 : w5.setCell _ _ = w7 at hc7 hr7 hsz7 ⊢
            clear hw7
            refine (copy_any _ (.mk i1 n1 r1 k1 (projL ids s1)) w7 _ _ (Nat.le_refl _) hr7 hok7).mono ?_
            rintro en w6 ⟨cs6, rfl, hr6, hc6⟩
            obtain ⟨v6, rfl, hs6⟩ := reads_nd.1 hr6
            obtain ⟨sa6, cap6, rfl, _, _, _⟩ := reads_subs hs6
            go_wp2_with (at_builtin; refine stop_here ?_)
            refine Stop.go ?_
            generalize hwA : World.alloc w6 _ = wA
            have hcA : Chg NoB w6 wA := by
              rw [← hwA]
              repeat (first | exact Chg.refl _ _ | apply Chg.alloc | apply Chg.drew)
            have hbA : Blk wA (w6.heap.size) ([.int .i64 i1, .string n1, .int .i64 r1, .int .i64 k1, .slice sa6 ((projL ids s1)).length cap6]) 24 := by
              rw [← hwA]
              repeat (first | exact Blk.newAt (by first | rfl | (simp; done) | (simp; omega)) | apply Blk.alloc | apply Blk.drew)
            clear hwA
            have hcU := (hc7).tr (hc6.tr hcA)
            have hoU := ho.keep hcU (fun _ _ => NoB.elim) (fun _ _ => NoB.elim)
            have hrA := hr6.chg0 hcA
            have hlA : ((projL ids (l.take j)).map Nd.dt).length = (projL ids (l.take j)).length := List.length_map ..
            have hle1 := projL_len ids (l.take j)
            rw [List.length_take] at hle1
            refine wpList_own rfl (.tmp 28) (.tmp 31) 22 rfl w.heap.size 24 Tryz.underlying22 infoNode rfl (by decide) rfl hoU rfl [Nd.dt (.mk i1 n1 r1 k1 (projL ids s1))] _ rfl (ReadsC.single rfl (hrA.mono ?_)) hbA.news (fun e => by cases e) ?_ ?_ ?_ ?_
            · intro x hx
              have hx : (w7).heap.size ≤ x := hx
              have h1 := hsz7
              have h2 := hc.size
              exact ⟨by omega, fun e => by have := (ho.block x e).2; omega⟩
            · rw [hlA]; unfold maxLen; omega
            · rw [hlA]; omega
            · have := (hc.tr hcU).size; omega
            intro ao4 cap4 wB hoB hcB hatB
            rw [hlA] at hoB ⊢
            have hcV : Chg NoB w wB := (hc.tr hcU).trans hcB (fun x e => .inr (hoU.block x e).1)
            go_wp2_with fail
            go_roundw
            case rel =>
              have hP : projL ids (l.take (j + 1)) = projL ids (l.take j) ++ [.mk i1 n1 r1 k1 (projL ids s1)] := by rw [Htake.out, projL_append, projL_one, HN.out]
              refine ⟨j + 1, ao4, cap4, hlt, by go_num, ?_, hcV, ?_⟩
              · show Value.slice ao4 ((projL ids (l.take j)).length + 1) cap4 = _
                rw [hP, List.length_append]
                rfl
              · rw [hP, List.map_append]
                exact hoB
            case measure => simp [intOf]; omega
        · have hN : projN ids (.mk i1 n1 r1 k1 s1) = [.mk i1 n1 r1 k1 s1] := by simp [projN, hh]
          have HN := Lib.hid hN
          clear hN
          go_wp2_with fail
          refine (copy_any _ (.mk i1 n1 r1 k1 s1) w4 _ _ (Nat.le_refl _) (hre.chg0 (hc.tr hc3)) hok1).mono ?_
          rintro en w6 ⟨cs6, rfl, hr6, hc6⟩
          obtain ⟨v6, rfl, hs6⟩ := reads_nd.1 hr6
          obtain ⟨sa6, cap6, rfl, _, _, _⟩ := reads_subs hs6
          go_wp2_with (at_builtin; refine stop_here ?_)
          refine Stop.go ?_
          generalize hwA : World.alloc w6 _ = wA
          have hcA : Chg NoB w6 wA := by
            rw [← hwA]
            repeat (first | exact Chg.refl _ _ | apply Chg.alloc | apply Chg.drew)
          have hbA : Blk wA (w6.heap.size) ([.int .i64 i1, .string n1, .int .i64 r1, .int .i64 k1, .slice sa6 (s1).length cap6]) 24 := by
            rw [← hwA]
            repeat (first | exact Blk.newAt (by first | rfl | (simp; done) | (simp; omega)) | apply Blk.alloc | apply Blk.drew)
          clear hwA
          have hcU := (hc3).tr (hc6.tr hcA)
          have hoU := ho.keep hcU (fun _ _ => NoB.elim) (fun _ _ => NoB.elim)
          have hrA := hr6.chg0 hcA
          have hlA : ((projL ids (l.take j)).map Nd.dt).length = (projL ids (l.take j)).length := List.length_map ..
          have hle1 := projL_len ids (l.take j)
          rw [List.length_take] at hle1
          refine wpList_own rfl (.tmp 28) (.tmp 31) 22 rfl w.heap.size 24 Tryz.underlying22 infoNode rfl (by decide) rfl hoU rfl [Nd.dt (.mk i1 n1 r1 k1 s1)] _ rfl (ReadsC.single rfl (hrA.mono ?_)) hbA.news (fun e => by cases e) ?_ ?_ ?_ ?_
          · intro x hx
            have hx : (w4).heap.size ≤ x := hx
            have h1 := hc3.size
            have h2 := hc.size
            exact ⟨by omega, fun e => by have := (ho.block x e).2; omega⟩
          · rw [hlA]; unfold maxLen; omega
          · rw [hlA]; omega
          · have := (hc.tr hcU).size; omega
          intro ao4 cap4 wB hoB hcB hatB
          rw [hlA] at hoB ⊢
          have hcV : Chg NoB w wB := (hc.tr hcU).trans hcB (fun x e => .inr (hoU.block x e).1)
          go_wp2_with fail
          go_roundw
          case rel =>
            have hP : projL ids (l.take (j + 1)) = projL ids (l.take j) ++ [.mk i1 n1 r1 k1 s1] := by rw [Htake.out, projL_append, projL_one, HN.out]
            refine ⟨j + 1, ao4, cap4, hlt, by go_num, ?_, hcV, ?_⟩
            · show Value.slice ao4 ((projL ids (l.take j)).length + 1) cap4 = _
              rw [hP, List.length_append]
              rfl
            · rw [hP, List.map_append]
              exact hoB
          case measure => simp [intOf]; omega
      · have hjl : j = l.length := by omega
        subst hjl
        rw [List.take_length] at ho
        go_wp2_with fail
        go_ret
        rw [List.take_length, Nd.dts_eq]
        have := projL_len ids l
        refine ⟨ao, ac, by rw [List.length_map]; rfl, ?_, hc⟩
        rw [List.length_map]
        refine ho.reads (fun b hb => .inr hb) (fun b hb _ => .inr hb) ?_
        rw [List.length_map]
        unfold maxLen
        omega
end Go.Proofs.YtfbbfhhhfbibjaaGreatDoor
