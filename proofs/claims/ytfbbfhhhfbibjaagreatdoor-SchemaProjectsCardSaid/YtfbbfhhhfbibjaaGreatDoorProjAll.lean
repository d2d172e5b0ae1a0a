/-
  schema.Project.
-/
import Derived.Test.YtfbbfhhhfbibjaaGreatDoorProject
set_option linter.unusedVariables false
set_option linter.unusedSimpArgs false
namespace Go.Proofs.YtfbbfhhhfbibjaaGreatDoor
open Go.RowKit

/-- What holds at the head of each round of Project. -/
def PjRel (w : World) (nd : Nd) (cs : List Value) (ids : List Int) (vi : Value) (wr : World) : Prop :=
  ∃ j, j ≤ ids.length ∧ vi = .int .i64 (j : Nat) ∧ Chg NoB w wr ∧ Blk wr w.heap.size cs 24 ∧ Blk wr (w.heap.size + 1) (ndCells 0 ⟨#[]⟩ 0 0 (.slice none 0 0)) 24 ∧ (ids.take j).any (fun i => (findF nd i).isNone) = false

set_option maxHeartbeats 1000000 in
theorem projectAll_any (nd : Nd) (ids : List Int) (vi : Value) (w : World) (S T : Nat → Prop) (cs : List Value) (E : Er → Value) (N : Value) (hE : Errs w E) (hN : Non w N) (hok : nd.ok) (hr : Reads w S nd.dt cs) (hSB : ∀ b, S b → b < w.heap.size)
    (hvi : Reads w T (.list 1 (ids.map intDt)) [vi]) :
    Calls Tryz.prog 30 #[.agg cs.toArray, vi] w (RetPJ E N (projectF nd ids) w) := by
  have hok' := hok
  have hr' := hr
  obtain ⟨i, nm, r, k, sb⟩ := nd
  obtain ⟨sv, rfl, hs⟩ := reads_nd.1 hr'
  obtain ⟨sa, cap, rfl, _, _, _⟩ := reads_subs hs
  have hvi' := hvi
  obtain ⟨va, vc, rfl, hvl, hvc, hve⟩ := reads_list hvi'
  rw [List.length_map] at *
  have hil63 : ids.length ≤ 9223372036854775807 := by unfold maxLen at hvc; omega
  go_enter Tryz.func30, Tryz.ntmps30
  go_wp2_with fail
  generalize hw1 : (w.alloc _).alloc _ = w1
  have hc1 : Chg NoB w w1 := by
    rw [← hw1]
    repeat (first | exact Chg.refl _ _ | apply Chg.alloc | apply Chg.drew)
  have hb0 : Blk w1 (w.heap.size) (ndCells i nm r k (.slice sa sb.length cap)) 24 := by
    rw [← hw1]
    repeat (first | exact Blk.newAt (by first | rfl | (simp; done) | (simp; omega)) | apply Blk.alloc | apply Blk.drew)
  have hb1 : Blk w1 (w.heap.size + 1) (ndCells 0 ⟨#[]⟩ 0 0 (.slice none 0 0)) 24 := by
    rw [← hw1]
    repeat (first | exact Blk.newAt (by first | rfl | (simp; done) | (simp; omega)) | apply Blk.alloc | apply Blk.drew)
  clear hw1
  have hsz1 := hc1.size
  refine (valid_any (.mk i nm r k sb) w1 S _ E (hE.keep0 hc1) hok (hr.chg0 hc1) (fun b hb => by have := hSB b hb; omega)).mono ?_
  rintro en w2 ⟨rfl, hc2⟩
  replace hb0 := hb0.keep hc2 NoB.elim
  replace hb1 := hb1.keep hc2 NoB.elim
  replace hc2 := hc1.tr hc2
  have x0 : w2.cell? ⟨w.heap.size, 0, none⟩ = some (.int .i64 (i)) := hb0.cell 0
  have x1 : w2.cell? ⟨w.heap.size, 1, none⟩ = some (.string nm) := hb0.cell 1
  have x2 : w2.cell? ⟨w.heap.size, 2, none⟩ = some (.int .i64 (r)) := hb0.cell 2
  have x3 : w2.cell? ⟨w.heap.size, 3, none⟩ = some (.int .i64 (k)) := hb0.cell 3
  have x4 : w2.cell? ⟨w.heap.size, 4, none⟩ = some (.slice sa sb.length cap) := hb0.cell 4
  have y0 : w2.cell? ⟨w.heap.size + 1, 0, none⟩ = some (.int .i64 (0)) := hb1.cell 0
  have y1 : w2.cell? ⟨w.heap.size + 1, 1, none⟩ = some (.string ⟨#[]⟩) := hb1.cell 1
  have y2 : w2.cell? ⟨w.heap.size + 1, 2, none⟩ = some (.int .i64 (0)) := hb1.cell 2
  have y3 : w2.cell? ⟨w.heap.size + 1, 3, none⟩ = some (.int .i64 (0)) := hb1.cell 3
  have y4 : w2.cell? ⟨w.heap.size + 1, 4, none⟩ = some (.slice none 0 0) := hb1.cell 4
  have z0 : w2.frozen? ⟨w.heap.size + 1, 0, none⟩ = false := hb1.free 0
  have z1 : w2.frozen? ⟨w.heap.size + 1, 1, none⟩ = false := hb1.free 1
  have z2 : w2.frozen? ⟨w.heap.size + 1, 2, none⟩ = false := hb1.free 2
  have z3 : w2.frozen? ⟨w.heap.size + 1, 3, none⟩ = false := hb1.free 3
  have z4 : w2.frozen? ⟨w.heap.size + 1, 4, none⟩ = false := hb1.free 4
  have l0 := hb0.lt
  have l1 := hb1.lt
  have hNf := hN.form
  have hEf := hE.form
  cases hv : validF (.mk i nm r k sb) with
  | some e =>
    obtain ⟨T1, v, hEv⟩ := hE.form e
    have hR : projectF (.mk i nm r k sb) ids = .er e := by unfold projectF; rw [hv]
    rw [show errVal E (some e) = .iface T1 v from hEv]
    have HEv := Lib.hid hEv
    have HR := Lib.hid hR
    clear hv hR hEv
    go_wp2_with fail
    have hb9 := store5 hb1 (.int .i64 0) (.string ⟨#[]⟩) (.int .i64 0) (.int .i64 0) (.slice none 0 0)
    have hc9 := hc2.trans' (store5_chg w2 (w.heap.size + 1) (.int .i64 0) (.string ⟨#[]⟩) (.int .i64 0) (.int .i64 0) (.slice none 0 0)) (fun x e => by have e : x = w.heap.size + 1 := e; omega)
    generalize World.setCell (World.setCell (World.setCell (World.setCell (World.setCell w2 ⟨w.heap.size + 1, 0, none⟩ (.int .i64 0)) ⟨w.heap.size + 1, 1, none⟩ (.string ⟨#[]⟩)) ⟨w.heap.size + 1, 2, none⟩ (.int .i64 0)) ⟨w.heap.size + 1, 3, none⟩ (.int .i64 0)) ⟨w.heap.size + 1, 4, none⟩ (.slice none 0 0) = w9 at *
    have n0 : w9.cell? ⟨w.heap.size + 1, 0, none⟩ = some (.int .i64 (0)) := hb9.cell 0
    have n1 : w9.cell? ⟨w.heap.size + 1, 1, none⟩ = some (.string ⟨#[]⟩) := hb9.cell 1
    have n2 : w9.cell? ⟨w.heap.size + 1, 2, none⟩ = some (.int .i64 (0)) := hb9.cell 2
    have n3 : w9.cell? ⟨w.heap.size + 1, 3, none⟩ = some (.int .i64 (0)) := hb9.cell 3
    have n4 : w9.cell? ⟨w.heap.size + 1, 4, none⟩ = some (.slice none 0 0) := hb9.cell 4
    refine bodyPost_ret (v := .tuple #[zeroNode, (.iface T1 v)]) (by simp [results, Tryz.results30, go_sem, n0, n1, n2, n3, n4, zeroNode]) rfl ?_
    rw [HR.out]
    exact ⟨hc9, congrArg (fun x => Ending.returned (.tuple #[zeroNode, x])) HEv.out.symm⟩
  | none =>
    rw [show errVal E none = .nilIface from rfl]
    have hR : projectF (.mk i nm r k sb) ids = bif ids.any (fun i' => (findF (.mk i nm r k sb) i').isNone) then .non
      else bif (subOf ids sb).isEmpty then .er .shape
      else .ok (.mk i nm r k (subOf ids sb)) := by unfold projectF; rw [hv]; rfl
    have HR := Lib.hid hR
    have Hv := Lib.hid hv
    clear hv hR
    have hvs := hvi
    obtain ⟨oa, oc, he, hil, hil2, hcl⟩ := list_cells (f := Value.int .i64) (show Reads w T (.list 1 (ids.map fun x => .lit (.int .i64 x))) [.slice va ids.length vc] from hvi)
    obtain ⟨rfl, -, rfl⟩ := Value.slice.inj he
    clear he
    go_wp2_with fail
    go_loopw [19] (fun vi wr => PjRel w (.mk i nm r k sb) (ndCells i nm r k (.slice sa sb.length cap)) ids vi wr) (fun vi _ => ids.length - (intOf vi).toNat)
    case atStart => exact ⟨0, Nat.zero_le _, rfl, hc2, hb0, hb1, rfl⟩
    case round =>
      obtain ⟨j, hj, rfl, hcr, hb0r, hb1r, hnot⟩ := hrel
      have Hnot := Lib.hid hnot
      clear hnot
      by_cases hlt : j < ids.length
      · obtain ⟨b, off, rfl, hTb, hbw, hcell⟩ := hcl (by omega)
        have e1 : wr.cell? ⟨b, off + j, none⟩ = some (.int .i64 ids[j]) := (hcr.cell (p := ⟨b, off + j, none⟩) hbw NoB.elim).trans (hcell j ids[j] (by simp [hlt]))
        have htake : ids.take (j + 1) = ids.take j ++ [ids[j]] := List.take_succ_eq_append_getElem hlt
        have hmem : ids[j] ∈ ids := List.getElem_mem hlt
        generalize ids[j] = x at e1 htake hmem
        have Htake := Lib.hid htake
        have Hmem := Lib.hid hmem
        clear htake hmem hcell
        have hsr := hcr.size
        clear x0 x1 x2 x3 x4 y0 y1 y2 y3 y4 z0 z1 z2 z3 z4
        have u0 : wr.cell? ⟨w.heap.size, 0, none⟩ = some (.int .i64 (i)) := hb0r.cell 0
        have u1 : wr.cell? ⟨w.heap.size, 1, none⟩ = some (.string nm) := hb0r.cell 1
        have u2 : wr.cell? ⟨w.heap.size, 2, none⟩ = some (.int .i64 (r)) := hb0r.cell 2
        have u3 : wr.cell? ⟨w.heap.size, 3, none⟩ = some (.int .i64 (k)) := hb0r.cell 3
        have u4 : wr.cell? ⟨w.heap.size, 4, none⟩ = some (.slice sa sb.length cap) := hb0r.cell 4
        go_wp2_with fail
        refine (find_any (.mk i nm r k sb) x wr S _ E N (hE.keep0 hcr) (hN.keep0 hcr) hok (hr.chg0 hcr) (fun b hb => by have := hSB b hb; omega)).mono ?_
        rintro en w5 ⟨hc5, hm5⟩
        have hfr : findR (.mk i nm r k sb) x = match findF (.mk i nm r k sb) x with
          | none => .non
          | some n => .ok n := by unfold findR; rw [Hv.out]; rfl
        rw [hfr] at hm5
        clear hfr
        have hb05 := hb0r.keep hc5 NoB.elim
        have hb15 := hb1r.keep hc5 NoB.elim
        have hcr5 := hcr.tr hc5
        have l5 := hb15.lt
        cases hf : findF (.mk i nm r k sb) x with
        | none =>
          rw [hf] at hm5
          have hm5 : en = .returned (.tuple #[zeroNode, N]) := hm5
          subst hm5
          obtain ⟨NT, Nv, rfl⟩ := hNf
          have hR9 : projectF (.mk i nm r k sb) ids = .non := by
            rw [HR.out, List.any_eq_true.2 ⟨x, Hmem.out, by rw [hf]; rfl⟩]; rfl
          have HR9 := Lib.hid hR9
          clear hR9 hf
          unfold zeroNode
          have y0 : w5.cell? ⟨w.heap.size + 1, 0, none⟩ = some (.int .i64 (0)) := hb15.cell 0
          have y1 : w5.cell? ⟨w.heap.size + 1, 1, none⟩ = some (.string ⟨#[]⟩) := hb15.cell 1
          have y2 : w5.cell? ⟨w.heap.size + 1, 2, none⟩ = some (.int .i64 (0)) := hb15.cell 2
          have y3 : w5.cell? ⟨w.heap.size + 1, 3, none⟩ = some (.int .i64 (0)) := hb15.cell 3
          have y4 : w5.cell? ⟨w.heap.size + 1, 4, none⟩ = some (.slice none 0 0) := hb15.cell 4
          have z0 : w5.frozen? ⟨w.heap.size + 1, 0, none⟩ = false := hb15.free 0
          have z1 : w5.frozen? ⟨w.heap.size + 1, 1, none⟩ = false := hb15.free 1
          have z2 : w5.frozen? ⟨w.heap.size + 1, 2, none⟩ = false := hb15.free 2
          have z3 : w5.frozen? ⟨w.heap.size + 1, 3, none⟩ = false := hb15.free 3
          have z4 : w5.frozen? ⟨w.heap.size + 1, 4, none⟩ = false := hb15.free 4
          go_wp2_with fail
          clear y0 y1 y2 y3 y4 z0 z1 z2 z3 z4
          have hb8 := store5 hb15 (.int .i64 0) (.string ⟨#[]⟩) (.int .i64 0) (.int .i64 0) (.slice none 0 0)
          have hc8 := hcr5.trans' (store5_chg w5 (w.heap.size + 1) (.int .i64 0) (.string ⟨#[]⟩) (.int .i64 0) (.int .i64 0) (.slice none 0 0)) (fun x e => by have e : x = w.heap.size + 1 := e; omega)
          generalize World.setCell (World.setCell (World.setCell (World.setCell (World.setCell w5 ⟨w.heap.size + 1, 0, none⟩ (.int .i64 0)) ⟨w.heap.size + 1, 1, none⟩ (.string ⟨#[]⟩)) ⟨w.heap.size + 1, 2, none⟩ (.int .i64 0)) ⟨w.heap.size + 1, 3, none⟩ (.int .i64 0)) ⟨w.heap.size + 1, 4, none⟩ (.slice none 0 0) = w8 at hb8 hc8 ⊢
          generalize hw9 : World.alloc w8 _ = w9
          have hb9 := hb8.alloc (.cells #[.int .i64 0, .string ⟨#[]⟩, .int .i64 0, .int .i64 0, .slice none 0 0] 24)
          have hc9 := hc8.alloc (.cells #[.int .i64 0, .string ⟨#[]⟩, .int .i64 0, .int .i64 0, .slice none 0 0] 24)
          rw [hw9] at hb9 hc9
          clear hw9
          have n0 : w9.cell? ⟨w.heap.size + 1, 0, none⟩ = some (.int .i64 (0)) := hb9.cell 0
          have n1 : w9.cell? ⟨w.heap.size + 1, 1, none⟩ = some (.string ⟨#[]⟩) := hb9.cell 1
          have n2 : w9.cell? ⟨w.heap.size + 1, 2, none⟩ = some (.int .i64 (0)) := hb9.cell 2
          have n3 : w9.cell? ⟨w.heap.size + 1, 3, none⟩ = some (.int .i64 (0)) := hb9.cell 3
          have n4 : w9.cell? ⟨w.heap.size + 1, 4, none⟩ = some (.slice none 0 0) := hb9.cell 4
          refine bodyPost_ret (v := .tuple #[zeroNode, (.iface NT Nv)]) (by simp [results, Tryz.results30, go_sem, n0, n1, n2, n3, n4, zeroNode]) rfl ?_
          rw [HR9.out]
          exact ⟨hc9, rfl⟩
        | some n =>
          rw [hf] at hm5
          obtain ⟨cs5, rfl, hr5⟩ := hm5
          obtain ⟨i5, nm5, r5, k5, s5⟩ := n
          obtain ⟨v5, rfl, hs5⟩ := reads_nd.1 hr5
          obtain ⟨sa5, cap5, rfl, _, _, _⟩ := reads_subs hs5
          have Hf := Lib.hid hf
          clear hf
          go_wp2_with fail
          generalize hw6 : World.alloc w5 _ = w6
          have hc6 : Chg NoB w5 w6 := by
            rw [← hw6]
            repeat (first | exact Chg.refl _ _ | apply Chg.alloc | apply Chg.drew)
          clear hw6
          go_roundw
          case rel =>
            refine ⟨j + 1, hlt, by go_num, hcr5.tr hc6, hb05.keep hc6 NoB.elim, hb15.keep hc6 NoB.elim, ?_⟩
            rw [Htake.out, List.any_append, Hnot.out]
            simp [Hf.out]
          case measure => simp [intOf]; omega
      · have hjl : j = ids.length := by omega
        subst hjl
        have hany := Hnot.out
        rw [List.take_length] at hany
        have hR := HR.out
        rw [hany] at hR
        simp only [cond_false] at hR
        have HR2 := Lib.hid hR
        clear hany hR HR Hnot
        have hsr := hcr.size
        have u0 : wr.cell? ⟨w.heap.size, 0, none⟩ = some (.int .i64 (i)) := hb0r.cell 0
        have u1 : wr.cell? ⟨w.heap.size, 1, none⟩ = some (.string nm) := hb0r.cell 1
        have u2 : wr.cell? ⟨w.heap.size, 2, none⟩ = some (.int .i64 (r)) := hb0r.cell 2
        have u3 : wr.cell? ⟨w.heap.size, 3, none⟩ = some (.int .i64 (k)) := hb0r.cell 3
        have u4 : wr.cell? ⟨w.heap.size, 4, none⟩ = some (.slice sa sb.length cap) := hb0r.cell 4
        go_wp2_with fail
        refine (containsI_any ids _ 0 (hvi.chg0 hcr)).mono ?_
        rintro en w4 ⟨rfl, rfl⟩
        rcases hh : has ids 0 with _ | _
        · have hS : subOf ids sb = projL ids sb := by unfold subOf; rw [if_neg (by rw [hh]; simp)]
          have HS := Lib.hid hS
          clear hS
          go_wp2_with fail
          refine (project_any ids _ (Nd.weighs sb + 1) sb _ w4 S T (Nat.lt_succ_self _) (hs.chg0 hcr) hok.2.2.2.2.2 hok.2.2.2.2.1 (hvi.chg0 hcr)).mono ?_
          rintro en w5 ⟨a5, c5, rfl, hrd5, hc5⟩
          rw [Nd.dts_eq, List.length_map] at hrd5 ⊢
          have hb05 := hb0r.keep hc5 NoB.elim
          have hb15 := hb1r.keep hc5 NoB.elim
          have hcr5 := hcr.tr hc5
          have l5 := hb15.lt
          clear u0 u1 u2 u3 u4
          have u0 : w5.cell? ⟨w.heap.size, 0, none⟩ = some (.int .i64 (i)) := hb05.cell 0
          have u1 : w5.cell? ⟨w.heap.size, 1, none⟩ = some (.string nm) := hb05.cell 1
          have u2 : w5.cell? ⟨w.heap.size, 2, none⟩ = some (.int .i64 (r)) := hb05.cell 2
          have u3 : w5.cell? ⟨w.heap.size, 3, none⟩ = some (.int .i64 (k)) := hb05.cell 3
          have u4 : w5.cell? ⟨w.heap.size, 4, none⟩ = some (.slice sa sb.length cap) := hb05.cell 4
          have q0 : w5.frozen? ⟨w.heap.size, 0, none⟩ = false := hb05.free 0
          have q1 : w5.frozen? ⟨w.heap.size, 1, none⟩ = false := hb05.free 1
          have q2 : w5.frozen? ⟨w.heap.size, 2, none⟩ = false := hb05.free 2
          have q3 : w5.frozen? ⟨w.heap.size, 3, none⟩ = false := hb05.free 3
          have q4 : w5.frozen? ⟨w.heap.size, 4, none⟩ = false := hb05.free 4
          by_cases hz : projL ids sb = []
          · have hR9 : projectF (.mk i nm r k sb) ids = .er .shape := by
              rw [HR2.out, HS.out, hz]; rfl
            have HR9 := Lib.hid hR9
            rw [hz] at hrd5 ⊢
            clear hR9 hz
            obtain ⟨ST, Sv, hEs⟩ := hEf .shape
            go_wp2_with fail
            have hcr6 := hcr5.setCell (p := ⟨w.heap.size, 4, none⟩) (.inr (Nat.le_refl _)) (.slice a5 0 c5)
            have hb16 := hb15.other (p := ⟨w.heap.size, 4, none⟩) (by dsimp only; omega) (.slice a5 0 c5)
            generalize hw6 : w5.setCell _ _ = w6 at hcr6 hb16 ⊢
            clear hw6
            have gS := (hE.keep0 hcr6).cell .shape
            have hgl := lt_of_cell (hE.cell .shape)
            simp only [Er.g] at gS hgl
            rw [hEs] at gS
            clear u0 u1 u2 u3 u4 q0 q1 q2 q3 q4
            have y0 : w6.cell? ⟨w.heap.size + 1, 0, none⟩ = some (.int .i64 (0)) := hb16.cell 0
            have y1 : w6.cell? ⟨w.heap.size + 1, 1, none⟩ = some (.string ⟨#[]⟩) := hb16.cell 1
            have y2 : w6.cell? ⟨w.heap.size + 1, 2, none⟩ = some (.int .i64 (0)) := hb16.cell 2
            have y3 : w6.cell? ⟨w.heap.size + 1, 3, none⟩ = some (.int .i64 (0)) := hb16.cell 3
            have y4 : w6.cell? ⟨w.heap.size + 1, 4, none⟩ = some (.slice none 0 0) := hb16.cell 4
            have z0 : w6.frozen? ⟨w.heap.size + 1, 0, none⟩ = false := hb16.free 0
            have z1 : w6.frozen? ⟨w.heap.size + 1, 1, none⟩ = false := hb16.free 1
            have z2 : w6.frozen? ⟨w.heap.size + 1, 2, none⟩ = false := hb16.free 2
            have z3 : w6.frozen? ⟨w.heap.size + 1, 3, none⟩ = false := hb16.free 3
            have z4 : w6.frozen? ⟨w.heap.size + 1, 4, none⟩ = false := hb16.free 4
            have l6 := hb16.lt
            have HEs := Lib.hid hEs
            clear hEs
            refine wp_region_n (fun w' => w'.cell? ⟨3, 0, none⟩ = some (.iface ST Sv)) [3] (by kernel_rfl) ?_ (fun hSh => ?_)
            · exact gS
            refine n_take (v := ?_) 0 rfl (Or.inl ⟨by rfl, ?_⟩) (by kernel_rfl) (fun _ _ _ h => h) (by assumption) ?_
            rotate_left 1
            · (intro w' hSw; (try dsimp only at hSw); go_simp; try with_reducible rfl)
            simp only [Act.put, List.getElem_toArray, List.getElem_cons_zero, List.getElem_cons_succ, List.setIfInBounds_toArray, List.set_cons_zero, List.set_cons_succ]
            refine n_take (v := ?_) 1 rfl (Or.inl ⟨by rfl, ?_⟩) (by kernel_rfl) (fun _ _ _ h => h) (by assumption) ?_
            rotate_left 1
            · (intro w' hSw; (try dsimp only at hSw); go_simp; try with_reducible rfl)
            simp only [Act.put, List.getElem_toArray, List.getElem_cons_zero, List.getElem_cons_succ, List.setIfInBounds_toArray, List.set_cons_zero, List.set_cons_succ]
            refine n_step 2 rfl (by kernel_rfl) ?_
            go_wp2_with fail
            refine ⟨fun _ => ((store5_chg w6 (w.heap.size + 1) _ _ _ _ _).drew.cell (lt_of_cell gS) (fun e => by have e : 3 = w.heap.size + 1 := e; omega)).trans gS, fun hSk => ?_⟩
            refine n_step 3 rfl (by kernel_rfl) ?_
            go_wp2_with fail
            refine ⟨fun hx => absurd hx (by decide), fun _ => ?_⟩
            refine n_done (by kernel_rfl) ?_
            go_wp2_with fail
            have hb9 := store5 hb16 (.int .i64 0) (.string ⟨#[]⟩) (.int .i64 0) (.int .i64 0) (.slice none 0 0)
            have hc9 := hcr6.trans' (store5_chg w6 (w.heap.size + 1) (.int .i64 0) (.string ⟨#[]⟩) (.int .i64 0) (.int .i64 0) (.slice none 0 0)) (fun x e => by have e : x = w.heap.size + 1 := e; omega)
            generalize World.setCell (World.setCell (World.setCell (World.setCell (World.setCell w6 ⟨w.heap.size + 1, 0, none⟩ (.int .i64 0)) ⟨w.heap.size + 1, 1, none⟩ (.string ⟨#[]⟩)) ⟨w.heap.size + 1, 2, none⟩ (.int .i64 0)) ⟨w.heap.size + 1, 3, none⟩ (.int .i64 0)) ⟨w.heap.size + 1, 4, none⟩ (.slice none 0 0) = w9 at *
            have n0 : w9.cell? ⟨w.heap.size + 1, 0, none⟩ = some (.int .i64 (0)) := hb9.cell 0
            have n1 : w9.cell? ⟨w.heap.size + 1, 1, none⟩ = some (.string ⟨#[]⟩) := hb9.cell 1
            have n2 : w9.cell? ⟨w.heap.size + 1, 2, none⟩ = some (.int .i64 (0)) := hb9.cell 2
            have n3 : w9.cell? ⟨w.heap.size + 1, 3, none⟩ = some (.int .i64 (0)) := hb9.cell 3
            have n4 : w9.cell? ⟨w.heap.size + 1, 4, none⟩ = some (.slice none 0 0) := hb9.cell 4
            refine bodyPost_ret (v := .tuple #[zeroNode, (.iface ST Sv)]) (by simp [results, Tryz.results30, go_sem, n0, n1, n2, n3, n4, zeroNode]) rfl ?_
            rw [HR9.out]
            exact ⟨hc9.drew, congrArg (fun x => Ending.returned (.tuple #[zeroNode, x])) HEs.out.symm⟩
          · have hR9 : projectF (.mk i nm r k sb) ids = .ok (.mk i nm r k (projL ids sb)) := by
              rw [HR2.out, HS.out]
              cases hq : projL ids sb with
              | nil => exact absurd hq hz
              | cons a b => rfl
            have HR9 := Lib.hid hR9
            have hnz : ¬ (((projL ids sb).length : Int) = 0) := fun e => hz (List.eq_nil_of_length_eq_zero (by omega))
            clear hR9 hz
            go_wp2_with fail
            have hcr6 := hcr5.setCell (p := ⟨w.heap.size, 4, none⟩) (.inr (Nat.le_refl _)) (.slice a5 (projL ids sb).length c5)
            have hb16 := hb15.other (p := ⟨w.heap.size, 4, none⟩) (by dsimp only; omega) (.slice a5 (projL ids sb).length c5)
            have hr6 : Reads (w5.setCell ⟨w.heap.size, 4, none⟩ (.slice a5 (projL ids sb).length c5)) _ (Nd.dt (.mk i nm r k (projL ids sb))) [.int .i64 i, .string nm, .int .i64 r, .int .i64 k, .slice a5 (projL ids sb).length c5] :=
              reads_nd.2 ⟨_, rfl, by
                rw [Nd.dts_eq]
                refine hrd5.chg ((Chg.refl (OneB w.heap.size) w5).setCell (p := ⟨w.heap.size, 4, none⟩) (.inl rfl) _) (fun b hb e => ?_)
                have e : b = w.heap.size := e
                rcases hb with hb | hb
                · exact hb.elim
                · have := hb0r.lt
                  omega⟩
            have hok6 : (Nd.mk i nm r k (projL ids sb)).ok := by
              obtain ⟨h1, h2, h3, h4, h5, h6⟩ := hok
              have := projL_len ids sb
              exact ⟨h1, h2, h3, h4, by omega, projL_oks ids sb h6⟩
            generalize hw6 : w5.setCell _ _ = w6 at hcr6 hb16 hr6 ⊢
            clear hw6 u0 u1 u2 u3 u4 q0 q1 q2 q3 q4
            refine (copy_any _ (.mk i nm r k (projL ids sb)) w6 _ _ (Nat.le_refl _) hr6 hok6).mono ?_
            rintro en w8 ⟨cs8, rfl, hr8, hc8⟩
            have hb8 := (hb16).keep hc8 NoB.elim
            have hcr8 := (hcr6).tr hc8
            have hszk := (hcr6).size
            obtain ⟨v8, rfl, hs8⟩ := reads_nd.1 hr8
            obtain ⟨sa8, cap8, rfl, _, _, _⟩ := reads_subs hs8
            have l9 := (hb16).lt
            have y0 : w8.cell? ⟨w.heap.size + 1, 0, none⟩ = some (.int .i64 (0)) := hb8.cell 0
            have y1 : w8.cell? ⟨w.heap.size + 1, 1, none⟩ = some (.string ⟨#[]⟩) := hb8.cell 1
            have y2 : w8.cell? ⟨w.heap.size + 1, 2, none⟩ = some (.int .i64 (0)) := hb8.cell 2
            have y3 : w8.cell? ⟨w.heap.size + 1, 3, none⟩ = some (.int .i64 (0)) := hb8.cell 3
            have y4 : w8.cell? ⟨w.heap.size + 1, 4, none⟩ = some (.slice none 0 0) := hb8.cell 4
            have z0 : w8.frozen? ⟨w.heap.size + 1, 0, none⟩ = false := hb8.free 0
            have z1 : w8.frozen? ⟨w.heap.size + 1, 1, none⟩ = false := hb8.free 1
            have z2 : w8.frozen? ⟨w.heap.size + 1, 2, none⟩ = false := hb8.free 2
            have z3 : w8.frozen? ⟨w.heap.size + 1, 3, none⟩ = false := hb8.free 3
            have z4 : w8.frozen? ⟨w.heap.size + 1, 4, none⟩ = false := hb8.free 4
            have l8 := hb8.lt
            go_wp2_with fail
            have hb9 := store5 hb8 (.int .i64 (i)) (.string nm) (.int .i64 (r)) (.int .i64 (k)) (.slice sa8 ((projL ids sb)).length cap8)
            have hc9 := hcr8.trans' (store5_chg w8 (w.heap.size + 1) (.int .i64 (i)) (.string nm) (.int .i64 (r)) (.int .i64 (k)) (.slice sa8 ((projL ids sb)).length cap8)) (fun x e => by have e : x = w.heap.size + 1 := e; omega)
            have hone := store5_chg w8 (w.heap.size + 1) (.int .i64 (i)) (.string nm) (.int .i64 (r)) (.int .i64 (k)) (.slice sa8 ((projL ids sb)).length cap8)
            generalize World.setCell (World.setCell (World.setCell (World.setCell (World.setCell w8 ⟨w.heap.size + 1, 0, none⟩ (.int .i64 (i))) ⟨w.heap.size + 1, 1, none⟩ (.string nm)) ⟨w.heap.size + 1, 2, none⟩ (.int .i64 (r))) ⟨w.heap.size + 1, 3, none⟩ (.int .i64 (k))) ⟨w.heap.size + 1, 4, none⟩ (.slice sa8 ((projL ids sb)).length cap8) = w9 at hb9 hc9 hone ⊢
            have n0 : w9.cell? ⟨w.heap.size + 1, 0, none⟩ = some (.int .i64 (i)) := hb9.cell 0
            have n1 : w9.cell? ⟨w.heap.size + 1, 1, none⟩ = some (.string nm) := hb9.cell 1
            have n2 : w9.cell? ⟨w.heap.size + 1, 2, none⟩ = some (.int .i64 (r)) := hb9.cell 2
            have n3 : w9.cell? ⟨w.heap.size + 1, 3, none⟩ = some (.int .i64 (k)) := hb9.cell 3
            have n4 : w9.cell? ⟨w.heap.size + 1, 4, none⟩ = some (.slice sa8 ((projL ids sb)).length cap8) := hb9.cell 4
            refine bodyPost_ret (v := .tuple #[.agg #[.int .i64 (i), .string nm, .int .i64 (r), .int .i64 (k), .slice sa8 ((projL ids sb)).length cap8], .nilIface]) (by simp [results, Tryz.results30, go_sem, n0, n1, n2, n3, n4]) rfl ?_
            rw [HR9.out]
            exact ⟨hc9, _, rfl, (hr8.chg hone (fun b hb e => by have e : b = w.heap.size + 1 := e; have hb : (w6).heap.size ≤ b := hb; omega)).mono (fun b hb => by have hb : (w6).heap.size ≤ b := hb; omega)⟩
        · have hS : subOf ids sb = sb := by unfold subOf; rw [if_pos hh]
          have hne : sb ≠ [] := (fit_of Hv.out).ne
          have hR9 : projectF (.mk i nm r k sb) ids = .ok (.mk i nm r k sb) := by
            rw [HR2.out, hS]
            cases hq : sb with
            | nil => exact absurd hq hne
            | cons a b => rfl
          have HR9 := Lib.hid hR9
          have hnz : ¬ ((sb.length : Int) = 0) := fun e => hne (List.eq_nil_of_length_eq_zero (by omega))
          clear hR9 hne hS
          go_wp2_with fail
          refine (copy_any _ (.mk i nm r k sb) w4 _ _ (Nat.le_refl _) (hr.chg0 hcr) hok).mono ?_
          rintro en w8 ⟨cs8, rfl, hr8, hc8⟩
          have hb8 := (hb1r).keep hc8 NoB.elim
          have hcr8 := (hcr).tr hc8
          have hszk := (hcr).size
          obtain ⟨v8, rfl, hs8⟩ := reads_nd.1 hr8
          obtain ⟨sa8, cap8, rfl, _, _, _⟩ := reads_subs hs8
          have l9 := (hb1r).lt
          have y0 : w8.cell? ⟨w.heap.size + 1, 0, none⟩ = some (.int .i64 (0)) := hb8.cell 0
          have y1 : w8.cell? ⟨w.heap.size + 1, 1, none⟩ = some (.string ⟨#[]⟩) := hb8.cell 1
          have y2 : w8.cell? ⟨w.heap.size + 1, 2, none⟩ = some (.int .i64 (0)) := hb8.cell 2
          have y3 : w8.cell? ⟨w.heap.size + 1, 3, none⟩ = some (.int .i64 (0)) := hb8.cell 3
          have y4 : w8.cell? ⟨w.heap.size + 1, 4, none⟩ = some (.slice none 0 0) := hb8.cell 4
          have z0 : w8.frozen? ⟨w.heap.size + 1, 0, none⟩ = false := hb8.free 0
          have z1 : w8.frozen? ⟨w.heap.size + 1, 1, none⟩ = false := hb8.free 1
          have z2 : w8.frozen? ⟨w.heap.size + 1, 2, none⟩ = false := hb8.free 2
          have z3 : w8.frozen? ⟨w.heap.size + 1, 3, none⟩ = false := hb8.free 3
          have z4 : w8.frozen? ⟨w.heap.size + 1, 4, none⟩ = false := hb8.free 4
          have l8 := hb8.lt
          go_wp2_with fail
          have hb9 := store5 hb8 (.int .i64 (i)) (.string nm) (.int .i64 (r)) (.int .i64 (k)) (.slice sa8 (sb).length cap8)
          have hc9 := hcr8.trans' (store5_chg w8 (w.heap.size + 1) (.int .i64 (i)) (.string nm) (.int .i64 (r)) (.int .i64 (k)) (.slice sa8 (sb).length cap8)) (fun x e => by have e : x = w.heap.size + 1 := e; omega)
          have hone := store5_chg w8 (w.heap.size + 1) (.int .i64 (i)) (.string nm) (.int .i64 (r)) (.int .i64 (k)) (.slice sa8 (sb).length cap8)
          generalize World.setCell (World.setCell (World.setCell (World.setCell (World.setCell w8 ⟨w.heap.size + 1, 0, none⟩ (.int .i64 (i))) ⟨w.heap.size + 1, 1, none⟩ (.string nm)) ⟨w.heap.size + 1, 2, none⟩ (.int .i64 (r))) ⟨w.heap.size + 1, 3, none⟩ (.int .i64 (k))) ⟨w.heap.size + 1, 4, none⟩ (.slice sa8 (sb).length cap8) = w9 at hb9 hc9 hone ⊢
          have n0 : w9.cell? ⟨w.heap.size + 1, 0, none⟩ = some (.int .i64 (i)) := hb9.cell 0
          have n1 : w9.cell? ⟨w.heap.size + 1, 1, none⟩ = some (.string nm) := hb9.cell 1
          have n2 : w9.cell? ⟨w.heap.size + 1, 2, none⟩ = some (.int .i64 (r)) := hb9.cell 2
          have n3 : w9.cell? ⟨w.heap.size + 1, 3, none⟩ = some (.int .i64 (k)) := hb9.cell 3
          have n4 : w9.cell? ⟨w.heap.size + 1, 4, none⟩ = some (.slice sa8 (sb).length cap8) := hb9.cell 4
          refine bodyPost_ret (v := .tuple #[.agg #[.int .i64 (i), .string nm, .int .i64 (r), .int .i64 (k), .slice sa8 (sb).length cap8], .nilIface]) (by simp [results, Tryz.results30, go_sem, n0, n1, n2, n3, n4]) rfl ?_
          rw [HR9.out]
          exact ⟨hc9, _, rfl, (hr8.chg hone (fun b hb e => by have e : b = w.heap.size + 1 := e; have hb : (w4).heap.size ≤ b := hb; omega)).mono (fun b hb => by have hb : (w4).heap.size ≤ b := hb; omega)⟩
end Go.Proofs.YtfbbfhhhfbibjaaGreatDoor
