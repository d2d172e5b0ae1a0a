/-
  SchemaLeaves: the walk, by the contracts.
-/
import Derived.Test.YtfbbfhhhfbibjaaGreatDoorPackJ
import Derived.Test.YtfbbfhhhfbibjaaGreatDoorLeavesOf
import Derived.Test.YtfbbfhhhfbibjaaGreatDoorPackH
import Derived.Test.YtfbbfhhhfbibjaaGreatDoorProjRef
import Derived.Test.YtfbbfhhhfbibjaaGreatDoorPackC
import Derived.Test.YtfbbfhhhfbibjaaGreatDoorPackG
set_option linter.unusedVariables false
set_option linter.unusedSimpArgs false
namespace Go.Proofs.YtfbbfhhhfbibjaaGreatDoor
open Go.RowKit

theorem grp_of {nd : Nd} (hv : validF nd = none) : Nd.Alls Grp nd.sub := by
  have hF := fit_of hv
  refine alls_impL (fun n hn => ?_) nd.sub hF.nodes
  obtain ⟨i, nm, r, k, s⟩ := n
  simp only [v3F, Nd.rep, Nd.kind, Nd.sub, Bool.and_eq_true, beq_iff_eq] at hn
  have h5 := hn.2
  show k = 0 ↔ s ≠ []
  constructor
  · rintro rfl rfl
    simp at h5
  · intro hne
    cases s with
    | nil => exact absurd rfl hne
    | cons a b =>
      simp only [List.isEmpty_cons, Bool.not_eq_false', decide_eq_true_eq] at h5
      exact of_decide_eq_true h5

set_option maxHeartbeats 1000000 in
theorem leafOf_any (l : Lf) (w : World) (S T : Nat → Prop) (cs ds : List Value) (ha : Reads w S l.dt cs) (hb : Reads w T l.dt ds) :
    Calls Tryz.prog 22 #[.agg cs.toArray, .agg ds.toArray] w (RetV (.bool true) w) := by
  obtain ⟨id, kind, mr, md, path⟩ := l
  obtain ⟨v1, rfl, h1⟩ := reads_lf.1 ha
  obtain ⟨v2, rfl, h2⟩ := reads_lf.1 hb
  obtain ⟨a1, c1, rfl, _, _, _⟩ := reads_list h1
  obtain ⟨a2, c2, rfl, _, _, _⟩ := reads_list h2
  rw [List.length_map] at *
  simp only
  go_enter Tryz.func22, Tryz.ntmps22
  go_wp2_with fail
  generalize hw1 : World.alloc _ _ = w1
  have hc1 : Chg NoB w w1 := by
    rw [← hw1]
    repeat (first | exact Chg.refl _ _ | apply Chg.alloc | apply Chg.drew)
  clear hw1
  refine (sameInts_yes path _ _ w1 S T (h1.chg0 hc1) (h2.chg0 hc1)).mono ?_
  rintro en w2 ⟨rfl, hc2⟩
  go_wp2_with fail
  go_ret
  exact ⟨rfl, hc1.tr hc2⟩

def LlRel (L : List Lf) (w7 : World) (vi : Value) (wr : World) : Prop := ∃ j : Nat, j ≤ L.length ∧ vi = .int .i64 (j : Nat) ∧ Chg NoB w7 wr

set_option maxHeartbeats 2000000 in
set_option maxRecDepth 100000 in
theorem leaves_law (nd : Nd) (w : World) (S : Nat → Prop) (cs : List Value) (A : Nat → Addr) (E : Er → Value) (N : Value) (hG : Glo w.heap.size E w) (hA : Named w A E N) (hok : nd.ok) (hr : Reads w S nd.dt cs) (hSB : ∀ b, S b → b < w.heap.size) :
    Calls Tryz.prog 5 #[.agg cs.toArray] w (RetV (.bool true) w) := by
  have hform := hG.errs.form
  have hok' := hok
  obtain ⟨i, nm, r, k, sb⟩ := nd
  have hr' := hr
  obtain ⟨sv', rfl, hs⟩ := reads_nd.1 hr'
  obtain ⟨sa, cap, rfl, hlen, hcap, hel⟩ := reads_subs hs
  go_enter Tryz.func5, Tryz.ntmps5
  go_wp2_with fail
  generalize hw1 : w.alloc _ = w1
  have hc1 : Chg NoB w w1 := by
    rw [← hw1]
    repeat (first | exact Chg.refl _ _ | apply Chg.alloc | apply Chg.drew)
  have hb1 : Blk w1 (w.heap.size) (ndCells i nm r k (.slice sa sb.length cap)) 24 := by
    rw [← hw1]
    repeat (first | exact Blk.newAt (by first | rfl | (simp; done) | (simp; omega)) | apply Blk.alloc | apply Blk.drew)
  clear hw1
  refine (leaf_any w1 E ((hG.keep0 hc1).up hc1.size)).mono ?_
  rintro en w2 ⟨rfl, hc2⟩
  have hb2 := hb1.keep hc2 NoB.elim
  have hc02 := hc1.tr hc2
  have c0 : w2.cell? ⟨w.heap.size, 0, none⟩ = some (.int .i64 (i)) := hb2.cell 0
  have c1 : w2.cell? ⟨w.heap.size, 1, none⟩ = some (.string nm) := hb2.cell 1
  have c2 : w2.cell? ⟨w.heap.size, 2, none⟩ = some (.int .i64 (r)) := hb2.cell 2
  have c3 : w2.cell? ⟨w.heap.size, 3, none⟩ = some (.int .i64 (k)) := hb2.cell 3
  have c4 : w2.cell? ⟨w.heap.size, 4, none⟩ = some (.slice sa sb.length cap) := hb2.cell 4
  go_wp2_with fail
  refine (tame_any (.mk i nm r k sb) w2 S _ (hr.chg0 hc02) hok).mono ?_
  rintro en w3 ⟨rfl, hc3⟩
  have hb3 := hb2.keep hc3 NoB.elim
  have hc03 := hc02.tr hc3
  have d0 : w3.cell? ⟨w.heap.size, 0, none⟩ = some (.int .i64 (i)) := hb3.cell 0
  have d1 : w3.cell? ⟨w.heap.size, 1, none⟩ = some (.string nm) := hb3.cell 1
  have d2 : w3.cell? ⟨w.heap.size, 2, none⟩ = some (.int .i64 (r)) := hb3.cell 2
  have d3 : w3.cell? ⟨w.heap.size, 3, none⟩ = some (.int .i64 (k)) := hb3.cell 3
  have d4 : w3.cell? ⟨w.heap.size, 4, none⟩ = some (.slice sa sb.length cap) := hb3.cell 4
  have l3 := hb3.lt
  cases ht : tameB (.mk i nm r k sb) with
  | false =>
    go_wp2_with fail
    go_ret
    exact ⟨rfl, hc03⟩
  | true =>
    go_wp2_with fail
    refine (err_any (.mk i nm r k sb) w3 S _ (hr.chg0 hc03) hok).mono ?_
    rintro en w4 ⟨rfl, hc4⟩
    have hb4 := hb3.keep hc4 NoB.elim
    have hc04 := hc03.tr hc4
    clear c0 c1 c2 c3 c4 d0 d1 d2 d3 d4
    have c0 : w4.cell? ⟨w.heap.size, 0, none⟩ = some (.int .i64 (i)) := hb4.cell 0
    have c1 : w4.cell? ⟨w.heap.size, 1, none⟩ = some (.string nm) := hb4.cell 1
    have c2 : w4.cell? ⟨w.heap.size, 2, none⟩ = some (.int .i64 (r)) := hb4.cell 2
    have c3 : w4.cell? ⟨w.heap.size, 3, none⟩ = some (.int .i64 (k)) := hb4.cell 3
    have c4 : w4.cell? ⟨w.heap.size, 4, none⟩ = some (.slice sa sb.length cap) := hb4.cell 4
    have l4 := hb4.lt
    go_wp2_with fail
    refine (ownNode_any _ (.mk i nm r k sb) w4 S _ (Nat.le_refl _) (hr.chg0 hc04) hok).mono ?_
    rintro en w5 ⟨cs5, rfl, hr5, hc5⟩
    have hb5 := hb4.keep hc5 NoB.elim
    have hc05 := hc04.tr hc5
    have hG5 := (hG.keep0 hc05).up hc05.size
    obtain ⟨sv5, rfl, hs5⟩ := reads_nd.1 hr5
    obtain ⟨sa5, cap5, rfl, _, _, _⟩ := reads_subs hs5
    go_wp2_with fail
    refine (leavesAll_any (.mk i nm r k sb) w5 _ _ E hG5.errs hok hr5.lt (fun b hb => hb.2)).mono ?_
    rintro en w6 ⟨hc6, hm6⟩
    have hb6 := hb5.keep hc6 NoB.elim
    have hc06 := hc05.tr hc6
    clear c0 c1 c2 c3 c4
    have c0 : w6.cell? ⟨w.heap.size, 0, none⟩ = some (.int .i64 (i)) := hb6.cell 0
    have c1 : w6.cell? ⟨w.heap.size, 1, none⟩ = some (.string nm) := hb6.cell 1
    have c2 : w6.cell? ⟨w.heap.size, 2, none⟩ = some (.int .i64 (r)) := hb6.cell 2
    have c3 : w6.cell? ⟨w.heap.size, 3, none⟩ = some (.int .i64 (k)) := hb6.cell 3
    have c4 : w6.cell? ⟨w.heap.size, 4, none⟩ = some (.slice sa sb.length cap) := hb6.cell 4
    have l6 := hb6.lt
    cases hv : validF (.mk i nm r k sb) with
    | some e =>
      obtain ⟨VT, Vv, hV⟩ := hform e
      rw [hv] at hm6
      simp only at hm6
      rw [hV] at hm6
      subst hm6
      have hT : Told w A (.iface VT Vv) (errNum (some e)) (-1) := by rw [← hV]; exact hA.told e
      have hpos : 0 < errNum (some e) ∧ errNum (some e) ≤ 100 := by cases e <;> exact ⟨by decide, by decide⟩
      obtain ⟨hpos1, hpos2⟩ := hpos
      clear hv hV
      generalize errNum (some e) = ne at *
      have HT := Lib.hid hT
      clear hT
      go_wp2_with fail
      refine (coded_any (.iface VT Vv) ne (-1) ne w6 A (hA.sents.keep0 hc06) (HT.out.keep0 hc06) (by omega) (by omega)).mono ?_
      rintro en w7 ⟨rfl, hc7⟩
      simp only [decide_true, Bool.and_self]
      go_wp2_with fail
      go_ret
      exact ⟨rfl, hc06.tr hc7⟩
    | none =>
      rw [hv] at hm6
      simp only at hm6
      obtain ⟨la, lc, rfl, hl6⟩ := hm6
      have hlaw : leavesRef (.mk i nm r k sb) = leavesOf (.mk i nm r k sb) := leavesRef_law (grp_of hv)
      have hen : errNum none = 0 := rfl
      rw [hen]
      have hlo := fun (w : World) (cs : List Value) (S : Nat → Prop) (h1 : Reads w S (Nd.dt (.mk i nm r k sb)) cs) => leavesOf_any (.mk i nm r k sb) w S cs hv h1 hok
      rw [hlaw] at hlo
      have hlen : (leavesOf (.mk i nm r k sb)).length ≤ 40 := by
        have h1 := lvL_len sb 0 0 []
        have h2 := (schema_of_valid hv).small
        simp only [Nd.weigh] at h2
        unfold leavesOf
        simp only [Nd.sub]
        omega
      clear hv hen hlaw
      generalize leavesOf (.mk i nm r k sb) = L at *
      have Hlo := Lib.hid hlo
      clear hlo
      go_wp2_with fail
      refine (Hlo.out w6 _ S (hr.chg0 hc06)).mono ?_
      rintro en w7 ⟨ra, rc, rfl, hl7, hc7⟩
      rw [List.length_map] at hl7 ⊢
      have hc07 := hc06.tr hc7
      have hl67 := hl6.chg0 hc7
      go_wp2_with fail
      go_loopw [8] (fun vi wr => LlRel L w7 vi wr) (fun vi _ => L.length - (intOf vi).toNat)
      case atStart => exact ⟨0, Nat.zero_le _, rfl, Chg.refl _ _⟩
      case round =>
        obtain ⟨j, hj, rfl, hcr⟩ := hrel
        have hl63 : L.length ≤ 9223372036854775807 := by omega
        by_cases hlt : j < L.length
        · have hjL : (j : Int) < (L.length : Int) := by omega
          obtain ⟨a1, c1', e1, _, _, hA1⟩ := reads_list (hl67.chg0 hcr)
          obtain ⟨a2, c2', e2, _, _, hA2⟩ := reads_list (hl7.chg0 hcr)
          rw [List.length_map] at e1 e2 hA1 hA2
          obtain ⟨rfl, -, rfl⟩ := Value.slice.inj e1
          obtain ⟨rfl, -, rfl⟩ := Value.slice.inj e2
          obtain ⟨b1, o1, rfl, _, hlt1, hE1⟩ := hA1 (by omega)
          obtain ⟨b2, o2, rfl, _, hlt2, hE2⟩ := hA2 (by omega)
          obtain ⟨cs1, _, hc1', hr1⟩ := hE1.get j L[j].dt (by simp [hlt])
          obtain ⟨cs2, _, hc2', hr2⟩ := hE2.get j L[j].dt (by simp [hlt])
          generalize L[j] = x at hr1 hr2
          obtain ⟨xi, xk, xr, xd, xp⟩ := x
          obtain ⟨v1, rfl, hp1⟩ := reads_lf.1 hr1
          obtain ⟨v2, rfl, hp2⟩ := reads_lf.1 hr2
          obtain ⟨pa1, pc1, rfl, _, _, _⟩ := reads_list hp1
          obtain ⟨pa2, pc2, rfl, _, _, _⟩ := reads_list hp2
          rw [List.length_map] at *
          simp only at *
          have f0 : wr.cell? ⟨b1, o1 + j * 5, none⟩ = some (.int .i64 xi) := hc1' 0 _ rfl
          have f1 : wr.cell? ⟨b1, o1 + j * 5 + 1, none⟩ = some (.int .i64 xk) := hc1' 1 _ rfl
          have f2 : wr.cell? ⟨b1, o1 + j * 5 + 2, none⟩ = some (.int .i64 xr) := hc1' 2 _ rfl
          have f3 : wr.cell? ⟨b1, o1 + j * 5 + 3, none⟩ = some (.int .i64 xd) := hc1' 3 _ rfl
          have f4 : wr.cell? ⟨b1, o1 + j * 5 + 4, none⟩ = some (.slice pa1 xp.length pc1) := hc1' 4 _ rfl
          have g0 : wr.cell? ⟨b2, o2 + j * 5, none⟩ = some (.int .i64 xi) := hc2' 0 _ rfl
          have g1 : wr.cell? ⟨b2, o2 + j * 5 + 1, none⟩ = some (.int .i64 xk) := hc2' 1 _ rfl
          have g2 : wr.cell? ⟨b2, o2 + j * 5 + 2, none⟩ = some (.int .i64 xr) := hc2' 2 _ rfl
          have g3 : wr.cell? ⟨b2, o2 + j * 5 + 3, none⟩ = some (.int .i64 xd) := hc2' 3 _ rfl
          have g4 : wr.cell? ⟨b2, o2 + j * 5 + 4, none⟩ = some (.slice pa2 xp.length pc2) := hc2' 4 _ rfl
          clear hc1' hc2' hE1 hE2 hA1 hA2
          go_wp2_with fail
          refine wp_region_n (fun w' => w'.cell? ⟨b1, o1 + j * 5, none⟩ = some (.int .i64 xi) ∧ w'.cell? ⟨b1, o1 + j * 5 + 1, none⟩ = some (.int .i64 xk) ∧ w'.cell? ⟨b1, o1 + j * 5 + 2, none⟩ = some (.int .i64 xr) ∧ w'.cell? ⟨b1, o1 + j * 5 + 3, none⟩ = some (.int .i64 xd) ∧ w'.cell? ⟨b1, o1 + j * 5 + 4, none⟩ = some (.slice pa1 xp.length pc1) ∧ w'.cell? ⟨b2, o2 + j * 5, none⟩ = some (.int .i64 xi) ∧ w'.cell? ⟨b2, o2 + j * 5 + 1, none⟩ = some (.int .i64 xk) ∧ w'.cell? ⟨b2, o2 + j * 5 + 2, none⟩ = some (.int .i64 xr) ∧ w'.cell? ⟨b2, o2 + j * 5 + 3, none⟩ = some (.int .i64 xd) ∧ w'.cell? ⟨b2, o2 + j * 5 + 4, none⟩ = some (.slice pa2 xp.length pc2)) [] (by kernel_rfl) ?_ (fun hSh => ?_)
          · exact ⟨f0, f1, f2, f3, f4, g0, g1, g2, g3, g4⟩
          refine n_take (v := ?_) 0 rfl (Or.inl ⟨by rfl, ?_⟩) (by kernel_rfl) (fun _ _ _ h => h) (by assumption) ?_
          rotate_left 1
          · (intro w' hSw; (try dsimp only at hSw); go_simp; try with_reducible rfl)
          simp only [Act.put, List.getElem_toArray, List.getElem_cons_zero, List.getElem_cons_succ, List.setIfInBounds_toArray, List.set_cons_zero, List.set_cons_succ]
          refine n_take (v := ?_) 1 rfl (Or.inl ⟨by rfl, ?_⟩) (by kernel_rfl) (fun _ _ _ h => h) (by assumption) ?_
          rotate_left 1
          · (intro w' hSw; (try dsimp only at hSw); go_simp; try with_reducible rfl)
          simp only [Act.put, List.getElem_toArray, List.getElem_cons_zero, List.getElem_cons_succ, List.setIfInBounds_toArray, List.set_cons_zero, List.set_cons_succ]
          refine n_take (v := ?_) 2 rfl (Or.inl ⟨by rfl, ?_⟩) (by kernel_rfl) (fun _ _ _ h => h) (by assumption) ?_
          rotate_left 1
          · (intro w' hSw; (try dsimp only at hSw); go_simp; try with_reducible rfl)
          simp only [Act.put, List.getElem_toArray, List.getElem_cons_zero, List.getElem_cons_succ, List.setIfInBounds_toArray, List.set_cons_zero, List.set_cons_succ]
          refine n_take (v := ?_) 3 rfl (Or.inl ⟨by rfl, ?_⟩) (by kernel_rfl) (fun _ _ _ h => h) (by assumption) ?_
          rotate_left 1
          · (intro w' hSw; (try dsimp only at hSw); go_simp; try with_reducible rfl)
          simp only [Act.put, List.getElem_toArray, List.getElem_cons_zero, List.getElem_cons_succ, List.setIfInBounds_toArray, List.set_cons_zero, List.set_cons_succ]
          refine n_take (v := ?_) 4 rfl (Or.inl ⟨by rfl, ?_⟩) (by kernel_rfl) (fun _ _ _ h => h) (by assumption) ?_
          rotate_left 1
          · (intro w' hSw; (try dsimp only at hSw); go_simp; try with_reducible rfl)
          simp only [Act.put, List.getElem_toArray, List.getElem_cons_zero, List.getElem_cons_succ, List.setIfInBounds_toArray, List.set_cons_zero, List.set_cons_succ]
          refine n_take (v := ?_) 5 rfl (Or.inl ⟨by rfl, ?_⟩) (by kernel_rfl) (fun _ _ _ h => h) (by assumption) ?_
          rotate_left 1
          · (intro w' hSw; (try dsimp only at hSw); go_simp; try with_reducible rfl)
          simp only [Act.put, List.getElem_toArray, List.getElem_cons_zero, List.getElem_cons_succ, List.setIfInBounds_toArray, List.set_cons_zero, List.set_cons_succ]
          refine n_take (v := ?_) 6 rfl (Or.inl ⟨by rfl, ?_⟩) (by kernel_rfl) (fun _ _ _ h => h) (by assumption) ?_
          rotate_left 1
          · (intro w' hSw; (try dsimp only at hSw); go_simp; try with_reducible rfl)
          simp only [Act.put, List.getElem_toArray, List.getElem_cons_zero, List.getElem_cons_succ, List.setIfInBounds_toArray, List.set_cons_zero, List.set_cons_succ]
          refine n_take (v := ?_) 7 rfl (Or.inl ⟨by rfl, ?_⟩) (by kernel_rfl) (fun _ _ _ h => h) (by assumption) ?_
          rotate_left 1
          · (intro w' hSw; (try dsimp only at hSw); go_simp; try with_reducible rfl)
          simp only [Act.put, List.getElem_toArray, List.getElem_cons_zero, List.getElem_cons_succ, List.setIfInBounds_toArray, List.set_cons_zero, List.set_cons_succ]
          refine n_step 8 rfl (by kernel_rfl) ?_
          go_wp2_with fail
          refine (leafOf_any ⟨xi, xk, xr, xd, xp⟩ wr.drew _ _ _ _ (hr1.chg0 (Chg.refl _ _).drew) (hr2.chg0 (Chg.refl _ _).drew)).mono ?_
          rintro en w9 ⟨rfl, hc9⟩
          go_wp2_with fail
          have hcd : Chg NoB wr w9 := (Chg.refl NoB wr).drew.tr hc9
          refine ⟨fun _ => ?_, fun hSk => ?_⟩
          · (repeat' refine And.intro ?_ ?_) <;> exact (hcd.cell (by first | assumption | (simp; done) | (simp; omega) | omega) NoB.elim).trans (by assumption)
          replace hSk := hSk (by rfl)
          refine n_take (v := ?_) 9 rfl (Or.inl ⟨by rfl, ?_⟩) (by kernel_rfl) (fun _ _ _ h => h) (by assumption) ?_
          rotate_left 1
          · (intro w' hSw; (try dsimp only at hSw); go_simp; try with_reducible rfl)
          simp only [Act.put, List.getElem_toArray, List.getElem_cons_zero, List.getElem_cons_succ, List.setIfInBounds_toArray, List.set_cons_zero, List.set_cons_succ]
          refine n_done (by kernel_rfl) ?_
          clear f0 f1 f2 f3 f4 g0 g1 g2 g3 g4 hSh hSk
          go_wp2_with fail
          exact ⟨⟨j + 1, hlt, by go_num, hcr.tr ((Chg.refl NoB wr).drew.tr hc9)⟩, by simp [intOf]; omega⟩
        · have hjl : j = L.length := by omega
          subst hjl
          have hjL : ¬ ((L.length : Nat) : Int) < (L.length : Int) := by omega
          go_wp2_with fail
          go_ret
          exact ⟨rfl, hc07.tr hcr⟩
end Go.Proofs.YtfbbfhhhfbibjaaGreatDoor
