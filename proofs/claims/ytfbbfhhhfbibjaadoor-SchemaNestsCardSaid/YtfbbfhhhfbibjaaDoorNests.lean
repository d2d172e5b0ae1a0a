/-
  SchemaNests: the walk, by the contracts.
-/
import Derived.Test.YtfbbfhhhfbibjaaDoorProjAll
import Derived.Test.YtfbbfhhhfbibjaaDoorLeavesAll
import Derived.Test.YtfbbfhhhfbibjaaDoorTwice
namespace Go.Proofs.YtfbbfhhhfbibjaaDoor
open Go.RowKit

theorem eq_of_id : ∀ {A : List Lf}, (A.map Lf.id).Nodup → ∀ {x y : Lf}, x ∈ A → y ∈ A → x.id = y.id → x = y
  | [], _, x, y, hx, _, _ => by cases hx
  | a :: A, h, x, y, hx, hy, e => by
    simp only [List.map_cons, List.nodup_cons] at h
    rcases List.mem_cons.1 hx with h1 | h1
    · rcases List.mem_cons.1 hy with h2 | h2
      · rw [h1, h2]
      · exact absurd (by rw [← h1, e]; exact List.mem_map_of_mem h2) h.1
    · rcases List.mem_cons.1 hy with h2 | h2
      · exact absurd (by rw [← h2, ← e]; exact List.mem_map_of_mem h1) h.1
      · exact eq_of_id h.2 h1 h2 e
theorem lv_cells {w : World} {S : Nat → Prop} {l : List Lf} {a : Option Addr} {n c : Nat} (h : Reads w S (.list 5 (l.map Lf.dt)) [.slice a n c]) :
    n = l.length ∧ l.length ≤ c ∧ c ≤ maxLen ∧ (l.length ≠ 0 → ∃ b off, a = some ⟨b, off, none⟩ ∧ b < w.heap.size ∧ ∀ j x, l[j]? = some x →
      w.cell? ⟨b, off + j * 5, none⟩ = some (.int .i64 x.id) ∧ w.cell? ⟨b, off + j * 5 + 2, none⟩ = some (.int .i64 x.mr) ∧ w.cell? ⟨b, off + j * 5 + 3, none⟩ = some (.int .i64 x.md)) := by
  obtain ⟨a', c', h1, h2, h3, h4⟩ := reads_list h
  simp only [List.length_map] at h1 h2 h4
  obtain ⟨rfl, rfl, rfl⟩ := Value.slice.inj h1
  refine ⟨rfl, h2, h3, fun hne => ?_⟩
  obtain ⟨b, off, ha, hb, hlt, hE⟩ := h4 hne
  refine ⟨b, off, ha, hlt, fun j x hj => ?_⟩
  obtain ⟨cs, h5, h6, h7⟩ := hE.get j x.dt (by simp [hj])
  obtain ⟨v, rfl, _⟩ := reads_lf.1 h7
  exact ⟨by simpa using h6 0 _ rfl, h6 2 _ rfl, h6 3 _ rfl⟩
/-- What holds at the head of each round: outside, and inside. -/
def NestO (A B : List Lf) (w : World) (vk vi : Value) (wr : World) : Prop :=
  ∃ k j, j ≤ B.length ∧ k ≤ A.length ∧ vk = .int .i64 (k : Nat) ∧ vi = .int .i64 (j : Nat) ∧ (B.drop j).Sublist (A.drop k) ∧ Chg NoB w wr
def NestI (A : List Lf) (l : List Lf) (w : World) (vk : Value) (wr : World) : Prop :=
  ∃ k, k ≤ A.length ∧ vk = .int .i64 (k : Nat) ∧ l.Sublist (A.drop k) ∧ Chg NoB w wr

theorem project_ok {nd p : Nd} {ids : List Int} (h : projectF nd ids = .ok p) (hok : nd.ok) : p.ok := by
  have hv := (project_law h).1
  unfold projectF at h
  rw [hv] at h
  simp only at h
  obtain ⟨i, nm, r, k, s⟩ := nd
  cases ha : ids.any (fun i' => (findF (.mk i nm r k s) i').isNone) with
  | true => rw [ha] at h; cases h
  | false =>
    rw [ha] at h
    simp only [cond_false] at h
    cases hb : (subOf ids (Nd.mk i nm r k s).sub).isEmpty with
    | true => rw [hb] at h; cases h
    | false =>
      rw [hb] at h
      simp only [cond_false] at h
      obtain rfl := PJ.ok.inj h
      obtain ⟨h1, h2, h3, h4, h5, h6⟩ := hok
      unfold subOf
      by_cases h0 : has ids 0 = true
      · simp only [if_pos h0]; exact ⟨h1, h2, h3, h4, h5, h6⟩
      · simp only [if_neg h0]
        have := projL_len ids s
        exact ⟨h1, h2, h3, h4, by simp only [Nd.sub]; omega, projL_oks ids s h6⟩

set_option maxHeartbeats 1000000 in
set_option maxRecDepth 100000 in
theorem nests_any (nd : Nd) (ids : List Int) (vi : Value) (w : World) (S T : Nat → Prop) (cs : List Value) (E : Er → Value) (N : Value) (hG : Glo w.heap.size E w) (hN : Non w N) (hok : nd.ok) (hr : Reads w S nd.dt cs) (hSB : ∀ b, S b → b < w.heap.size)
    (hvi : Reads w T (.list 1 (ids.map intDt)) [vi]) :
    Calls Tryd.prog 4 #[.agg cs.toArray, vi] w (RetV (.bool true) w) := by
  have hform := hG.errs.form
  have hok' := hok
  obtain ⟨i, nm, r, k, sb⟩ := nd
  have hr' := hr
  obtain ⟨sv, rfl, hs⟩ := reads_nd.1 hr'
  obtain ⟨sa, cap, rfl, hlen, hcap, hel⟩ := reads_subs hs
  have hvi' := hvi
  obtain ⟨va, vc, rfl, hvl, hvc, hve⟩ := reads_list hvi'
  rw [List.length_map] at *
  have hil63 : ids.length ≤ 9223372036854775807 := by unfold maxLen at hvc; omega
  go_enter Tryd.func4, Tryd.ntmps4
  go_wp2_with fail
  generalize hw1 : w.alloc _ = w1
  have hc1 : Chg NoB w w1 := by
    rw [← hw1]
    repeat (first | exact Chg.refl _ _ | apply Chg.alloc | apply Chg.drew)
  have hb1 : Blk w1 (w.heap.size) (ndCells i nm r k (.slice sa sb.length cap)) 24 := by
    rw [← hw1]
    repeat (first | exact Blk.newAt (by first | rfl | (simp; done) | (simp; omega)) | apply Blk.alloc | apply Blk.drew)
  clear hw1
  refine (leaf_any w1 E ((hG.keep0 hc1).up hc1.size)).mono ?_
  rintro en w2 ⟨rfl, hc2⟩
  have hb2 := hb1.keep hc2 NoB.elim
  have hc02 := hc1.tr hc2
  have c0 : w2.cell? ⟨w.heap.size, 0, none⟩ = some (.int .i64 (i)) := hb2.cell 0
  have c1 : w2.cell? ⟨w.heap.size, 1, none⟩ = some (.string nm) := hb2.cell 1
  have c2 : w2.cell? ⟨w.heap.size, 2, none⟩ = some (.int .i64 (r)) := hb2.cell 2
  have c3 : w2.cell? ⟨w.heap.size, 3, none⟩ = some (.int .i64 (k)) := hb2.cell 3
  have c4 : w2.cell? ⟨w.heap.size, 4, none⟩ = some (.slice sa sb.length cap) := hb2.cell 4
  go_wp2_with fail
  refine (tame_any (.mk i nm r k sb) w2 S _ (hr.chg0 hc02) hok).mono ?_
  rintro en w3 ⟨rfl, hc3⟩
  have hb3 := hb2.keep hc3 NoB.elim
  have hc03 := hc02.tr hc3
  have d0 : w3.cell? ⟨w.heap.size, 0, none⟩ = some (.int .i64 (i)) := hb3.cell 0
  have d1 : w3.cell? ⟨w.heap.size, 1, none⟩ = some (.string nm) := hb3.cell 1
  have d2 : w3.cell? ⟨w.heap.size, 2, none⟩ = some (.int .i64 (r)) := hb3.cell 2
  have d3 : w3.cell? ⟨w.heap.size, 3, none⟩ = some (.int .i64 (k)) := hb3.cell 3
  have d4 : w3.cell? ⟨w.heap.size, 4, none⟩ = some (.slice sa sb.length cap) := hb3.cell 4
  cases ht : tameB (.mk i nm r k sb) with
  | false =>
    go_wp2_with fail
    go_ret
    exact ⟨rfl, hc03⟩
  | true =>
    by_cases hbig : 60 < ids.length
    · have hbig' : (60 : Int) < (ids.length : Int) := by omega
      go_wp2_with fail
      go_ret
      exact ⟨rfl, hc03⟩
    · have hbig' : ¬ (60 : Int) < (ids.length : Int) := by omega
      go_wp2_with fail
      refine (ownNode_any _ (.mk i nm r k sb) w3 S _ (Nat.le_refl _) (hr.chg0 hc03) hok).mono ?_
      rintro en w4 ⟨cs4, rfl, hr4, hc4⟩
      have hb4 := hb3.keep hc4 NoB.elim
      have hc04 := hc03.tr hc4
      obtain ⟨sv4, rfl, hs4⟩ := reads_nd.1 hr4
      obtain ⟨sa4, cap4, rfl, _, _, _⟩ := reads_subs hs4
      go_wp2_with fail
      refine (ints_any ids _ w4 T (hvi.chg0 hc04) (by omega)).mono ?_
      rintro en w5 ⟨a5, c5, rfl, hrd5, hc5⟩
      rw [List.length_map] at hrd5 ⊢
      have hb5 := hb4.keep hc5 NoB.elim
      have hc05 := hc04.tr hc5
      have hr5 := hr4.lt.chg0 hc5
      have hG5 := (hG.keep0 hc05).up hc05.size
      have hN5 := hN.keep0 hc05
      obtain ⟨NT, Nv, hNe⟩ := hN.form
      go_wp2_with fail
      refine (projectAll_any (.mk i nm r k sb) ids _ w5 _ _ _ E N hG5.errs hN5 hok hr5 (fun b hb => by have := hc5.size; omega) hrd5).mono ?_
      rintro en w6 ⟨hc6, hm6⟩
      have hb6 := hb5.keep hc6 NoB.elim
      have hc06 := hc05.tr hc6
      cases hp : projectF (.mk i nm r k sb) ids with
      | er e =>
        rw [hp] at hm6
        have hm6 : en = .returned (.tuple #[zeroNode, E e]) := hm6
        subst hm6
        obtain ⟨T1, v1, hEv⟩ := hform e
        rw [hEv]
        unfold zeroNode
        clear hp
        go_wp2_with fail
        go_ret
        exact ⟨rfl, hc06.alloc _⟩
      | non =>
        rw [hp] at hm6
        have hm6 : en = .returned (.tuple #[zeroNode, N]) := hm6
        subst hm6
        rw [hNe]
        unfold zeroNode
        clear hp
        go_wp2_with fail
        go_ret
        exact ⟨rfl, hc06.alloc _⟩
      | ok p =>
        rw [hp] at hm6
        obtain ⟨cs6, rfl, hr6⟩ := hm6
        obtain ⟨hv, hvp, hsub, hnd, hagain⟩ := project_law hp
        obtain ⟨ip, np, rp, kp, sp⟩ := p
        obtain ⟨v6, rfl, hs6⟩ := reads_nd.1 hr6
        obtain ⟨sa6, cap6, rfl, _, _, _⟩ := reads_subs hs6
        have Hv := Lib.hid hv
        have Hvp := Lib.hid hvp
        have Hsub := Lib.hid hsub
        have Hnd := Lib.hid hnd
        have Hagain := Lib.hid hagain
        have hokp := project_ok hp hok
        clear hp hv hvp hsub hnd hagain
        have l6 := hb6.lt
        have hf6 := hG.errs.keep0 hc06
        clear c0 c1 c2 c3 c4 d0 d1 d2 d3 d4
        have c0 : w6.cell? ⟨w.heap.size, 0, none⟩ = some (.int .i64 (i)) := hb6.cell 0
        have c1 : w6.cell? ⟨w.heap.size, 1, none⟩ = some (.string nm) := hb6.cell 1
        have c2 : w6.cell? ⟨w.heap.size, 2, none⟩ = some (.int .i64 (r)) := hb6.cell 2
        have c3 : w6.cell? ⟨w.heap.size, 3, none⟩ = some (.int .i64 (k)) := hb6.cell 3
        have c4 : w6.cell? ⟨w.heap.size, 4, none⟩ = some (.slice sa sb.length cap) := hb6.cell 4
        go_wp2_with fail
        generalize hw7 : World.alloc w6 _ = w7
        have hc7 : Chg NoB w6 w7 := by
          rw [← hw7]
          repeat (first | exact Chg.refl _ _ | apply Chg.alloc | apply Chg.drew)
        have hp7 : Blk w7 (w6.heap.size) (ndCells ip np rp kp (.slice sa6 sp.length cap6)) 24 := by
          rw [← hw7]
          repeat (first | exact Blk.newAt (by first | rfl | (simp; done) | (simp; omega)) | apply Blk.alloc | apply Blk.drew)
        clear hw7
        have hb7 := hb6.keep hc7 NoB.elim
        have hc07 := hc06.tr hc7
        refine (ownNode_any _ (.mk i nm r k sb) w7 S _ (Nat.le_refl _) (hr.chg0 hc07) hok).mono ?_
        rintro en w8 ⟨cs8, rfl, hr8, hc8⟩
        have hb8 := hb7.keep hc8 NoB.elim
        have hp8 := hp7.keep hc8 NoB.elim
        have hc08 := hc07.tr hc8
        obtain ⟨sv8, rfl, hs8⟩ := reads_nd.1 hr8
        obtain ⟨sa8, cap8, rfl, _, _, _⟩ := reads_subs hs8
        go_wp2_with fail
        refine (leavesAll_any (.mk i nm r k sb) w8 _ _ E (hG.errs.keep0 hc08) hok hr8.lt (fun b hb => hb.2)).mono ?_
        rintro en w9 ⟨hc9, hm9⟩
        rw [Hv.out] at hm9
        obtain ⟨a9, c9, rfl, hl9⟩ := hm9
        have hb9 := hb8.keep hc9 NoB.elim
        have hp9 := hp8.keep hc9 NoB.elim
        have hc09 := hc08.tr hc9
        have lp9 := hp9.lt
        have d0 : w9.cell? ⟨w6.heap.size, 0, none⟩ = some (.int .i64 (ip)) := hp9.cell 0
        have d1 : w9.cell? ⟨w6.heap.size, 1, none⟩ = some (.string np) := hp9.cell 1
        have d2 : w9.cell? ⟨w6.heap.size, 2, none⟩ = some (.int .i64 (rp)) := hp9.cell 2
        have d3 : w9.cell? ⟨w6.heap.size, 3, none⟩ = some (.int .i64 (kp)) := hp9.cell 3
        have d4 : w9.cell? ⟨w6.heap.size, 4, none⟩ = some (.slice sa6 sp.length cap6) := hp9.cell 4
        go_wp2_with fail
        have hc79 := hc8.tr hc9
        refine (leavesAll_any (.mk ip np rp kp sp) w9 _ _ E (hG.errs.keep0 hc09) hokp (hr6.lt.chg0 (hc7.tr hc79)) (fun b hb => by have := (hc7.tr hc79).size; omega)).mono ?_
        rintro en w10 ⟨hc10, hm10⟩
        rw [Hvp.out] at hm10
        obtain ⟨a10, c10, rfl, hl10⟩ := hm10
        have hb10 := hb9.keep hc10 NoB.elim
        have hp10 := hp9.keep hc10 NoB.elim
        have hc010 := hc09.tr hc10
        clear d0 d1 d2 d3 d4
        have lp10 := hp10.lt
        have d0 : w10.cell? ⟨w6.heap.size, 0, none⟩ = some (.int .i64 (ip)) := hp10.cell 0
        have d1 : w10.cell? ⟨w6.heap.size, 1, none⟩ = some (.string np) := hp10.cell 1
        have d2 : w10.cell? ⟨w6.heap.size, 2, none⟩ = some (.int .i64 (rp)) := hp10.cell 2
        have d3 : w10.cell? ⟨w6.heap.size, 3, none⟩ = some (.int .i64 (kp)) := hp10.cell 3
        have d4 : w10.cell? ⟨w6.heap.size, 4, none⟩ = some (.slice sa6 sp.length cap6) := hp10.cell 4
        go_wp2_with fail
        have hc710 := hc79.tr hc10
        refine (valid_any (.mk ip np rp kp sp) w10 _ _ E (hG.errs.keep0 hc010) hokp (hr6.lt.chg0 (hc7.tr hc710)) (fun b hb => by have := (hc7.tr hc710).size; omega)).mono ?_
        rintro en w11 ⟨rfl, hc11⟩
        rw [Hvp.out, show errVal E none = .nilIface from rfl]
        have hb11 := hb10.keep hc11 NoB.elim
        have hp11 := hp10.keep hc11 NoB.elim
        have hc011 := hc010.tr hc11
        have hl9' := hl9.chg0 (hc10.tr hc11)
        have hl10' := hl10.chg0 hc11
        clear d0 d1 d2 d3 d4 c0 c1 c2 c3 c4
        have lp11 := hp11.lt
        have d0 : w11.cell? ⟨w6.heap.size, 0, none⟩ = some (.int .i64 (ip)) := hp11.cell 0
        have d1 : w11.cell? ⟨w6.heap.size, 1, none⟩ = some (.string np) := hp11.cell 1
        have d2 : w11.cell? ⟨w6.heap.size, 2, none⟩ = some (.int .i64 (rp)) := hp11.cell 2
        have d3 : w11.cell? ⟨w6.heap.size, 3, none⟩ = some (.int .i64 (kp)) := hp11.cell 3
        have d4 : w11.cell? ⟨w6.heap.size, 4, none⟩ = some (.slice sa6 sp.length cap6) := hp11.cell 4
        obtain ⟨-, hA1, hA2, hA3⟩ := lv_cells hl9'
        obtain ⟨-, hB1, hB2, hB3⟩ := lv_cells hl10'
        have HA3 := Lib.hid hA3
        have HB3 := Lib.hid hB3
        have hAl : (leavesOf (.mk i nm r k sb)).length ≤ 9223372036854775807 := by unfold maxLen at hA2; omega
        have hBl : (leavesOf (.mk ip np rp kp sp)).length ≤ 9223372036854775807 := by unfold maxLen at hB2; omega
        clear hA1 hA2 hA3 hB1 hB2 hB3 hl9 hl10 hl9' hl10'
        have Hs0 := Hsub.out
        generalize leavesOf (.mk i nm r k sb) = A at *
        generalize leavesOf (.mk ip np rp kp sp) = B at *
        go_wp2_with fail
        go_loopw [12, 13] (fun vk vi wr => NestO A B w11 vk vi wr) (fun _ vi _ => B.length - (intOf vi).toNat)
        case atStart => exact ⟨0, 0, Nat.zero_le _, Nat.zero_le _, rfl, rfl, by simpa using Hs0, Chg.refl _ _⟩
        case round =>
          obtain ⟨k0, j, hj, hk0, rfl, rfl, hsl, hcr⟩ := hrel
          have Hsl := Lib.hid hsl
          clear hsl
          by_cases hlt : j < B.length
          · go_wp2_with fail
            go_loopw [12] (fun vk wr' => NestI A (B.drop j) w11 vk wr') (fun vk _ => A.length - (intOf vk).toNat)
            case atStart => exact ⟨k0, hk0, rfl, Hsl.out, by first | exact hcr | exact hcr.drew⟩
            case round =>
              obtain ⟨k1, hk1, rfl, hsl, hcr1⟩ := hrel
              have hBj : B.drop j = B[j] :: B.drop (j + 1) := List.drop_eq_getElem_cons hlt
              have hk1' : k1 < A.length := by
                by_cases h9 : k1 < A.length
                · exact h9
                · have hz : A.drop k1 = [] := List.drop_of_length_le (by omega)
                  rw [hBj, hz] at hsl
                  cases hsl
              have hAk : A.drop k1 = A[k1] :: A.drop (k1 + 1) := List.drop_eq_getElem_cons hk1'
              obtain ⟨ab, aoff, rfl, hab, hac⟩ := HA3.out (by omega)
              obtain ⟨bb, boff, rfl, hbb, hbc⟩ := HB3.out (by omega)
              obtain ⟨ax0, ax2, ax3⟩ := hac k1 A[k1] (by simp [hk1'])
              obtain ⟨by0, by2, by3⟩ := hbc j B[j] (by simp [hlt])
              have hmx : A[k1] ∈ A := List.getElem_mem hk1'
              have hmy : B[j] ∈ A := Hsub.out.subset (List.getElem_mem hlt)
              generalize A[k1] = x at *
              generalize B[j] = y at *
              replace ax0 := (hcr1.cell (p := ⟨ab, aoff + k1 * 5, none⟩) hab NoB.elim).trans ax0
              replace ax2 := (hcr1.cell (p := ⟨ab, aoff + k1 * 5 + 2, none⟩) hab NoB.elim).trans ax2
              replace ax3 := (hcr1.cell (p := ⟨ab, aoff + k1 * 5 + 3, none⟩) hab NoB.elim).trans ax3
              replace by0 := (hcr1.cell (p := ⟨bb, boff + j * 5, none⟩) hbb NoB.elim).trans by0
              replace by2 := (hcr1.cell (p := ⟨bb, boff + j * 5 + 2, none⟩) hbb NoB.elim).trans by2
              replace by3 := (hcr1.cell (p := ⟨bb, boff + j * 5 + 3, none⟩) hbb NoB.elim).trans by3
              clear hac hbc
              by_cases hid : x.id = y.id
              · have hxy : x = y := eq_of_id Hnd.out hmx hmy hid
                subst hxy
                have hnext : (B.drop (j + 1)).Sublist (A.drop k1) := by
                  rw [hBj] at hsl
                  exact (List.sublist_cons_self _ _).trans hsl
                have Hnext := Lib.hid hnext
                clear hid hnext hsl hBj hAk hmx hmy
                have hk1i : (k1 : Int) < (A.length : Int) := by omega
                go_wp2_with fail
                refine wp_region_n (fun w' => w'.cell? ⟨ab, aoff + k1 * 5, none⟩ = some (.int .i64 x.id) ∧ w'.cell? ⟨bb, boff + j * 5, none⟩ = some (.int .i64 x.id)) [] (by kernel_rfl) ?_ (fun hSh => ?_)
                · exact ⟨ax0, by0⟩
                refine n_take (v := ?_) 0 rfl (Or.inl ⟨by rfl, ?_⟩) (by kernel_rfl) (fun _ _ _ h => h) (by assumption) ?_
                rotate_left 1
                · (intro w' hSw; (try dsimp only at hSw); go_simp; try with_reducible rfl)
                simp only [Act.put, List.getElem_toArray, List.getElem_cons_zero, List.getElem_cons_succ, List.setIfInBounds_toArray, List.set_cons_zero, List.set_cons_succ]
                refine n_take (v := ?_) 1 rfl (Or.inl ⟨by rfl, ?_⟩) (by kernel_rfl) (fun _ _ _ h => h) (by assumption) ?_
                rotate_left 1
                · (intro w' hSw; (try dsimp only at hSw); go_simp; try with_reducible rfl)
                simp only [Act.put, List.getElem_toArray, List.getElem_cons_zero, List.getElem_cons_succ, List.setIfInBounds_toArray, List.set_cons_zero, List.set_cons_succ]
                refine n_take (v := ?_) 2 rfl (Or.inl ⟨by rfl, ?_⟩) (by kernel_rfl) (fun _ _ _ h => h) (by assumption) ?_
                rotate_left 1
                · (intro w' hSw; (try dsimp only at hSw); go_simp; try with_reducible rfl)
                simp only [Act.put, List.getElem_toArray, List.getElem_cons_zero, List.getElem_cons_succ, List.setIfInBounds_toArray, List.set_cons_zero, List.set_cons_succ]
                refine n_take (v := ?_) 3 rfl (Or.inl ⟨by rfl, ?_⟩) (by kernel_rfl) (fun _ _ _ h => h) (by assumption) ?_
                rotate_left 1
                · (intro w' hSw; (try dsimp only at hSw); go_simp; try with_reducible rfl)
                simp only [Act.put, List.getElem_toArray, List.getElem_cons_zero, List.getElem_cons_succ, List.setIfInBounds_toArray, List.set_cons_zero, List.set_cons_succ]
                refine n_take (v := ?_) 4 rfl (Or.inl ⟨by rfl, ?_⟩) (by kernel_rfl) (fun _ _ _ h => h) (by assumption) ?_
                rotate_left 1
                · (intro w' hSw; (try dsimp only at hSw); go_simp; try with_reducible rfl)
                simp only [Act.put, List.getElem_toArray, List.getElem_cons_zero, List.getElem_cons_succ, List.setIfInBounds_toArray, List.set_cons_zero, List.set_cons_succ]
                refine n_take (v := ?_) 5 rfl (Or.inl ⟨by rfl, ?_⟩) (by kernel_rfl) (fun _ _ _ h => h) (by assumption) ?_
                rotate_left 1
                · (intro w' hSw; (try dsimp only at hSw); go_simp; try with_reducible rfl)
                simp only [Act.put, List.getElem_toArray, List.getElem_cons_zero, List.getElem_cons_succ, List.setIfInBounds_toArray, List.set_cons_zero, List.set_cons_succ]
                refine n_take (v := ?_) 6 rfl (Or.inl ⟨by rfl, ?_⟩) (by kernel_rfl) (fun _ _ _ h => h) (by assumption) ?_
                rotate_left 1
                · (intro w' hSw; (try dsimp only at hSw); go_simp; try with_reducible rfl)
                simp only [Act.put, List.getElem_toArray, List.getElem_cons_zero, List.getElem_cons_succ, List.setIfInBounds_toArray, List.set_cons_zero, List.set_cons_succ]
                refine n_take (v := ?_) 7 rfl (Or.inl ⟨by rfl, ?_⟩) (by kernel_rfl) (fun _ _ _ h => h) (by assumption) ?_
                rotate_left 1
                · (intro w' hSw; (try dsimp only at hSw); go_simp; try with_reducible rfl)
                simp only [Act.put, List.getElem_toArray, List.getElem_cons_zero, List.getElem_cons_succ, List.setIfInBounds_toArray, List.set_cons_zero, List.set_cons_succ]
                refine n_take (v := ?_) 8 rfl (Or.inl ⟨by rfl, ?_⟩) (by kernel_rfl) (fun _ _ _ h => h) (by assumption) ?_
                rotate_left 1
                · (intro w' hSw; (try dsimp only at hSw); go_simp; try with_reducible rfl)
                simp only [Act.put, List.getElem_toArray, List.getElem_cons_zero, List.getElem_cons_succ, List.setIfInBounds_toArray, List.set_cons_zero, List.set_cons_succ]
                refine n_take (v := ?_) 9 rfl (Or.inl ⟨by rfl, ?_⟩) (by kernel_rfl) (fun _ _ _ h => h) (by assumption) ?_
                rotate_left 1
                · (intro w' hSw; (try dsimp only at hSw); go_simp; try with_reducible rfl)
                simp only [Act.put, List.getElem_toArray, List.getElem_cons_zero, List.getElem_cons_succ, List.setIfInBounds_toArray, List.set_cons_zero, List.set_cons_succ]
                refine n_take (v := ?_) 10 rfl (Or.inl ⟨by rfl, ?_⟩) (by kernel_rfl) (fun _ _ _ h => h) (by assumption) ?_
                rotate_left 1
                · (intro w' hSw; (try dsimp only at hSw); go_simp; try with_reducible rfl)
                simp only [Act.put, List.getElem_toArray, List.getElem_cons_zero, List.getElem_cons_succ, List.setIfInBounds_toArray, List.set_cons_zero, List.set_cons_succ]
                refine n_take (v := ?_) 11 rfl (Or.inl ⟨by rfl, ?_⟩) (by kernel_rfl) (fun _ _ _ h => h) (by assumption) ?_
                rotate_left 1
                · (intro w' hSw; (try dsimp only at hSw); go_simp; try with_reducible rfl)
                simp only [Act.put, List.getElem_toArray, List.getElem_cons_zero, List.getElem_cons_succ, List.setIfInBounds_toArray, List.set_cons_zero, List.set_cons_succ]
                refine n_take (v := ?_) 12 rfl (Or.inl ⟨by rfl, ?_⟩) (by kernel_rfl) (fun _ _ _ h => h) (by assumption) ?_
                rotate_left 1
                · (intro w' hSw; (try dsimp only at hSw); go_simp; try with_reducible rfl)
                simp only [Act.put, List.getElem_toArray, List.getElem_cons_zero, List.getElem_cons_succ, List.setIfInBounds_toArray, List.set_cons_zero, List.set_cons_succ]
                refine n_take (v := ?_) 13 rfl (Or.inl ⟨by rfl, ?_⟩) (by kernel_rfl) (fun _ _ _ h => h) (by assumption) ?_
                rotate_left 1
                · (intro w' hSw; (try dsimp only at hSw); go_simp; try with_reducible rfl)
                simp only [Act.put, List.getElem_toArray, List.getElem_cons_zero, List.getElem_cons_succ, List.setIfInBounds_toArray, List.set_cons_zero, List.set_cons_succ]
                refine n_take (v := ?_) 14 rfl (Or.inl ⟨by rfl, ?_⟩) (by kernel_rfl) (fun _ _ _ h => h) (by assumption) ?_
                rotate_left 1
                · (intro w' hSw; (try dsimp only at hSw); go_simp; try with_reducible rfl)
                simp only [Act.put, List.getElem_toArray, List.getElem_cons_zero, List.getElem_cons_succ, List.setIfInBounds_toArray, List.set_cons_zero, List.set_cons_succ]
                refine n_take (v := ?_) 15 rfl (Or.inl ⟨by rfl, ?_⟩) (by kernel_rfl) (fun _ _ _ h => h) (by assumption) ?_
                rotate_left 1
                · (intro w' hSw; (try dsimp only at hSw); go_simp; try with_reducible rfl)
                simp only [Act.put, List.getElem_toArray, List.getElem_cons_zero, List.getElem_cons_succ, List.setIfInBounds_toArray, List.set_cons_zero, List.set_cons_succ]
                refine n_take (v := ?_) 16 rfl (Or.inl ⟨by rfl, ?_⟩) (by kernel_rfl) (fun _ _ _ h => h) (by assumption) ?_
                rotate_left 1
                · (intro w' hSw; (try dsimp only at hSw); go_simp; try with_reducible rfl)
                simp only [Act.put, List.getElem_toArray, List.getElem_cons_zero, List.getElem_cons_succ, List.setIfInBounds_toArray, List.set_cons_zero, List.set_cons_succ]
                refine n_done (by kernel_rfl) ?_
                go_wp2_with fail
                have hkeq : ((k1 : Int) == (A.length : Int)) = false := by
                  rw [beq_eq_false_iff_ne]; omega
                refine wp_region_n (fun w' => w'.cell? ⟨ab, aoff + k1 * 5 + 2, none⟩ = some (.int .i64 x.mr) ∧ w'.cell? ⟨bb, boff + j * 5 + 2, none⟩ = some (.int .i64 x.mr) ∧ w'.cell? ⟨ab, aoff + k1 * 5 + 3, none⟩ = some (.int .i64 x.md) ∧ w'.cell? ⟨bb, boff + j * 5 + 3, none⟩ = some (.int .i64 x.md)) [] (by kernel_rfl) ?_ (fun hSh => ?_)
                · exact ⟨ax2, by2, ax3, by3⟩
                refine n_take (v := ?_) 0 rfl (Or.inl ⟨by rfl, ?_⟩) (by kernel_rfl) (fun _ _ _ h => h) (by assumption) ?_
                rotate_left 1
                · (intro w' hSw; (try dsimp only at hSw); go_simp; try with_reducible rfl)
                simp only [Act.put, List.getElem_toArray, List.getElem_cons_zero, List.getElem_cons_succ, List.setIfInBounds_toArray, List.set_cons_zero, List.set_cons_succ]
                refine n_take (v := ?_) 1 rfl (Or.inl ⟨by rfl, ?_⟩) (by kernel_rfl) (fun _ _ _ h => h) (by assumption) ?_
                rotate_left 1
                · (intro w' hSw; (try dsimp only at hSw); go_simp; try with_reducible rfl)
                simp only [Act.put, List.getElem_toArray, List.getElem_cons_zero, List.getElem_cons_succ, List.setIfInBounds_toArray, List.set_cons_zero, List.set_cons_succ]
                refine n_take (v := ?_) 2 rfl (Or.inl ⟨by rfl, ?_⟩) (by kernel_rfl) (fun _ _ _ h => h) (by assumption) ?_
                rotate_left 1
                · (intro w' hSw; (try dsimp only at hSw); go_simp; try with_reducible rfl)
                simp only [Act.put, List.getElem_toArray, List.getElem_cons_zero, List.getElem_cons_succ, List.setIfInBounds_toArray, List.set_cons_zero, List.set_cons_succ]
                refine n_take (v := ?_) 3 rfl (Or.inl ⟨by rfl, ?_⟩) (by kernel_rfl) (fun _ _ _ h => h) (by assumption) ?_
                rotate_left 1
                · (intro w' hSw; (try dsimp only at hSw); go_simp; (try simp only [hkeq]); try with_reducible rfl)
                simp only [Act.put, List.getElem_toArray, List.getElem_cons_zero, List.getElem_cons_succ, List.setIfInBounds_toArray, List.set_cons_zero, List.set_cons_succ]
                refine n_take (v := ?_) 4 rfl (Or.inl ⟨by rfl, ?_⟩) (by kernel_rfl) (fun _ _ _ h => h) (by assumption) ?_
                rotate_left 1
                · (intro w' hSw; (try dsimp only at hSw); go_simp; try with_reducible rfl)
                simp only [Act.put, List.getElem_toArray, List.getElem_cons_zero, List.getElem_cons_succ, List.setIfInBounds_toArray, List.set_cons_zero, List.set_cons_succ]
                refine n_take (v := ?_) 5 rfl (Or.inl ⟨by rfl, ?_⟩) (by kernel_rfl) (fun _ _ _ h => h) (by assumption) ?_
                rotate_left 1
                · (intro w' hSw; (try dsimp only at hSw); go_simp; try with_reducible rfl)
                simp only [Act.put, List.getElem_toArray, List.getElem_cons_zero, List.getElem_cons_succ, List.setIfInBounds_toArray, List.set_cons_zero, List.set_cons_succ]
                refine n_take (v := ?_) 6 rfl (Or.inl ⟨by rfl, ?_⟩) (by kernel_rfl) (fun _ _ _ h => h) (by assumption) ?_
                rotate_left 1
                · (intro w' hSw; (try dsimp only at hSw); go_simp; try with_reducible rfl)
                simp only [Act.put, List.getElem_toArray, List.getElem_cons_zero, List.getElem_cons_succ, List.setIfInBounds_toArray, List.set_cons_zero, List.set_cons_succ]
                refine n_take (v := ?_) 7 rfl (Or.inl ⟨by rfl, ?_⟩) (by kernel_rfl) (fun _ _ _ h => h) (by assumption) ?_
                rotate_left 1
                · (intro w' hSw; (try dsimp only at hSw); go_simp; try with_reducible rfl)
                simp only [Act.put, List.getElem_toArray, List.getElem_cons_zero, List.getElem_cons_succ, List.setIfInBounds_toArray, List.set_cons_zero, List.set_cons_succ]
                refine n_take (v := ?_) 8 rfl (Or.inl ⟨by rfl, ?_⟩) (by kernel_rfl) (fun _ _ _ h => h) (by assumption) ?_
                rotate_left 1
                · (intro w' hSw; (try dsimp only at hSw); go_simp; try with_reducible rfl)
                simp only [Act.put, List.getElem_toArray, List.getElem_cons_zero, List.getElem_cons_succ, List.setIfInBounds_toArray, List.set_cons_zero, List.set_cons_succ]
                refine n_take (v := ?_) 9 rfl (Or.inl ⟨by rfl, ?_⟩) (by kernel_rfl) (fun _ _ _ h => h) (by assumption) ?_
                rotate_left 1
                · (intro w' hSw; (try dsimp only at hSw); go_simp; try with_reducible rfl)
                simp only [Act.put, List.getElem_toArray, List.getElem_cons_zero, List.getElem_cons_succ, List.setIfInBounds_toArray, List.set_cons_zero, List.set_cons_succ]
                refine n_take (v := ?_) 10 rfl (Or.inl ⟨by rfl, ?_⟩) (by kernel_rfl) (fun _ _ _ h => h) (by assumption) ?_
                rotate_left 1
                · (intro w' hSw; (try dsimp only at hSw); go_simp; try with_reducible rfl)
                simp only [Act.put, List.getElem_toArray, List.getElem_cons_zero, List.getElem_cons_succ, List.setIfInBounds_toArray, List.set_cons_zero, List.set_cons_succ]
                refine n_take (v := ?_) 11 rfl (Or.inl ⟨by rfl, ?_⟩) (by kernel_rfl) (fun _ _ _ h => h) (by assumption) ?_
                rotate_left 1
                · (intro w' hSw; (try dsimp only at hSw); go_simp; try with_reducible rfl)
                simp only [Act.put, List.getElem_toArray, List.getElem_cons_zero, List.getElem_cons_succ, List.setIfInBounds_toArray, List.set_cons_zero, List.set_cons_succ]
                refine n_take (v := ?_) 12 rfl (Or.inl ⟨by rfl, ?_⟩) (by kernel_rfl) (fun _ _ _ h => h) (by assumption) ?_
                rotate_left 1
                · (intro w' hSw; (try dsimp only at hSw); go_simp; try with_reducible rfl)
                simp only [Act.put, List.getElem_toArray, List.getElem_cons_zero, List.getElem_cons_succ, List.setIfInBounds_toArray, List.set_cons_zero, List.set_cons_succ]
                refine n_take (v := ?_) 13 rfl (Or.inl ⟨by rfl, ?_⟩) (by kernel_rfl) (fun _ _ _ h => h) (by assumption) ?_
                rotate_left 1
                · (intro w' hSw; (try dsimp only at hSw); go_simp; try with_reducible rfl)
                simp only [Act.put, List.getElem_toArray, List.getElem_cons_zero, List.getElem_cons_succ, List.setIfInBounds_toArray, List.set_cons_zero, List.set_cons_succ]
                refine n_take (v := ?_) 14 rfl (Or.inl ⟨by rfl, ?_⟩) (by kernel_rfl) (fun _ _ _ h => h) (by assumption) ?_
                rotate_left 1
                · (intro w' hSw; (try dsimp only at hSw); go_simp; try with_reducible rfl)
                simp only [Act.put, List.getElem_toArray, List.getElem_cons_zero, List.getElem_cons_succ, List.setIfInBounds_toArray, List.set_cons_zero, List.set_cons_succ]
                refine n_take (v := ?_) 15 rfl (Or.inl ⟨by rfl, ?_⟩) (by kernel_rfl) (fun _ _ _ h => h) (by assumption) ?_
                rotate_left 1
                · (intro w' hSw; (try dsimp only at hSw); go_simp; try with_reducible rfl)
                simp only [Act.put, List.getElem_toArray, List.getElem_cons_zero, List.getElem_cons_succ, List.setIfInBounds_toArray, List.set_cons_zero, List.set_cons_succ]
                refine n_take (v := ?_) 16 rfl (Or.inl ⟨by rfl, ?_⟩) (by kernel_rfl) (fun _ _ _ h => h) (by assumption) ?_
                rotate_left 1
                · (intro w' hSw; (try dsimp only at hSw); go_simp; try with_reducible rfl)
                simp only [Act.put, List.getElem_toArray, List.getElem_cons_zero, List.getElem_cons_succ, List.setIfInBounds_toArray, List.set_cons_zero, List.set_cons_succ]
                refine n_take (v := ?_) 17 rfl (Or.inl ⟨by rfl, ?_⟩) (by kernel_rfl) (fun _ _ _ h => h) (by assumption) ?_
                rotate_left 1
                · (intro w' hSw; (try dsimp only at hSw); go_simp; try with_reducible rfl)
                simp only [Act.put, List.getElem_toArray, List.getElem_cons_zero, List.getElem_cons_succ, List.setIfInBounds_toArray, List.set_cons_zero, List.set_cons_succ]
                refine n_take (v := ?_) 18 rfl (Or.inl ⟨by rfl, ?_⟩) (by kernel_rfl) (fun _ _ _ h => h) (by assumption) ?_
                rotate_left 1
                · (intro w' hSw; (try dsimp only at hSw); go_simp; try with_reducible rfl)
                simp only [Act.put, List.getElem_toArray, List.getElem_cons_zero, List.getElem_cons_succ, List.setIfInBounds_toArray, List.set_cons_zero, List.set_cons_succ]
                refine n_take (v := ?_) 19 rfl (Or.inl ⟨by rfl, ?_⟩) (by kernel_rfl) (fun _ _ _ h => h) (by assumption) ?_
                rotate_left 1
                · (intro w' hSw; (try dsimp only at hSw); go_simp; try with_reducible rfl)
                simp only [Act.put, List.getElem_toArray, List.getElem_cons_zero, List.getElem_cons_succ, List.setIfInBounds_toArray, List.set_cons_zero, List.set_cons_succ]
                refine n_take (v := ?_) 20 rfl (Or.inl ⟨by rfl, ?_⟩) (by kernel_rfl) (fun _ _ _ h => h) (by assumption) ?_
                rotate_left 1
                · (intro w' hSw; (try dsimp only at hSw); go_simp; try with_reducible rfl)
                simp only [Act.put, List.getElem_toArray, List.getElem_cons_zero, List.getElem_cons_succ, List.setIfInBounds_toArray, List.set_cons_zero, List.set_cons_succ]
                refine n_take (v := ?_) 21 rfl (Or.inl ⟨by rfl, ?_⟩) (by kernel_rfl) (fun _ _ _ h => h) (by assumption) ?_
                rotate_left 1
                · (intro w' hSw; (try dsimp only at hSw); go_simp; try with_reducible rfl)
                simp only [Act.put, List.getElem_toArray, List.getElem_cons_zero, List.getElem_cons_succ, List.setIfInBounds_toArray, List.set_cons_zero, List.set_cons_succ]
                refine n_take (v := ?_) 22 rfl (Or.inl ⟨by rfl, ?_⟩) (by kernel_rfl) (fun _ _ _ h => h) (by assumption) ?_
                rotate_left 1
                · (intro w' hSw; (try dsimp only at hSw); go_simp; try with_reducible rfl)
                simp only [Act.put, List.getElem_toArray, List.getElem_cons_zero, List.getElem_cons_succ, List.setIfInBounds_toArray, List.set_cons_zero, List.set_cons_succ]
                refine n_take (v := ?_) 23 rfl (Or.inl ⟨by rfl, ?_⟩) (by kernel_rfl) (fun _ _ _ h => h) (by assumption) ?_
                rotate_left 1
                · (intro w' hSw; (try dsimp only at hSw); go_simp; try with_reducible rfl)
                simp only [Act.put, List.getElem_toArray, List.getElem_cons_zero, List.getElem_cons_succ, List.setIfInBounds_toArray, List.set_cons_zero, List.set_cons_succ]
                refine n_take (v := ?_) 24 rfl (Or.inl ⟨by rfl, ?_⟩) (by kernel_rfl) (fun _ _ _ h => h) (by assumption) ?_
                rotate_left 1
                · (intro w' hSw; (try dsimp only at hSw); go_simp; try with_reducible rfl)
                simp only [Act.put, List.getElem_toArray, List.getElem_cons_zero, List.getElem_cons_succ, List.setIfInBounds_toArray, List.set_cons_zero, List.set_cons_succ]
                refine n_take (v := ?_) 25 rfl (Or.inl ⟨by rfl, ?_⟩) (by kernel_rfl) (fun _ _ _ h => h) (by assumption) ?_
                rotate_left 1
                · (intro w' hSw; (try dsimp only at hSw); go_simp; try with_reducible rfl)
                simp only [Act.put, List.getElem_toArray, List.getElem_cons_zero, List.getElem_cons_succ, List.setIfInBounds_toArray, List.set_cons_zero, List.set_cons_succ]
                refine n_take (v := ?_) 26 rfl (Or.inl ⟨by rfl, ?_⟩) (by kernel_rfl) (fun _ _ _ h => h) (by assumption) ?_
                rotate_left 1
                · (intro w' hSw; (try dsimp only at hSw); go_simp; try with_reducible rfl)
                simp only [Act.put, List.getElem_toArray, List.getElem_cons_zero, List.getElem_cons_succ, List.setIfInBounds_toArray, List.set_cons_zero, List.set_cons_succ]
                refine n_take (v := ?_) 27 rfl (Or.inl ⟨by rfl, ?_⟩) (by kernel_rfl) (fun _ _ _ h => h) (by assumption) ?_
                rotate_left 1
                · (intro w' hSw; (try dsimp only at hSw); go_simp; try with_reducible rfl)
                simp only [Act.put, List.getElem_toArray, List.getElem_cons_zero, List.getElem_cons_succ, List.setIfInBounds_toArray, List.set_cons_zero, List.set_cons_succ]
                refine n_take (v := ?_) 28 rfl (Or.inl ⟨by rfl, ?_⟩) (by kernel_rfl) (fun _ _ _ h => h) (by assumption) ?_
                rotate_left 1
                · (intro w' hSw; (try dsimp only at hSw); go_simp; try with_reducible rfl)
                simp only [Act.put, List.getElem_toArray, List.getElem_cons_zero, List.getElem_cons_succ, List.setIfInBounds_toArray, List.set_cons_zero, List.set_cons_succ]
                refine n_take (v := ?_) 29 rfl (Or.inl ⟨by rfl, ?_⟩) (by kernel_rfl) (fun _ _ _ h => h) (by assumption) ?_
                rotate_left 1
                · (intro w' hSw; (try dsimp only at hSw); go_simp; try with_reducible rfl)
                simp only [Act.put, List.getElem_toArray, List.getElem_cons_zero, List.getElem_cons_succ, List.setIfInBounds_toArray, List.set_cons_zero, List.set_cons_succ]
                refine n_done (by kernel_rfl) ?_
                go_wp2_with fail
                exact ⟨⟨k1, j + 1, hlt, hk1, rfl, by go_num, Hnext.out, hcr1.drew.drew⟩, by simp [intOf]; omega⟩
              · have hid' : (x.id != y.id) = true := by simpa using hid
                have hnext : (B.drop j).Sublist (A.drop (k1 + 1)) := by
                  rw [hBj] at hsl ⊢
                  rw [hAk] at hsl
                  exact next_of hsl (fun e => hid (by rw [e]))
                have Hnext := Lib.hid hnext
                clear hid hnext hsl hBj hAk hmx hmy
                have hk1i : (k1 : Int) < (A.length : Int) := by omega
                go_wp2_with fail
                refine wp_region_n (fun w' => w'.cell? ⟨ab, aoff + k1 * 5, none⟩ = some (.int .i64 x.id) ∧ w'.cell? ⟨bb, boff + j * 5, none⟩ = some (.int .i64 y.id)) [] (by kernel_rfl) ?_ (fun hSh => ?_)
                · exact ⟨ax0, by0⟩
                refine n_take (v := ?_) 0 rfl (Or.inl ⟨by rfl, ?_⟩) (by kernel_rfl) (fun _ _ _ h => h) (by assumption) ?_
                rotate_left 1
                · (intro w' hSw; (try dsimp only at hSw); go_simp; try with_reducible rfl)
                simp only [Act.put, List.getElem_toArray, List.getElem_cons_zero, List.getElem_cons_succ, List.setIfInBounds_toArray, List.set_cons_zero, List.set_cons_succ]
                refine n_take (v := ?_) 1 rfl (Or.inl ⟨by rfl, ?_⟩) (by kernel_rfl) (fun _ _ _ h => h) (by assumption) ?_
                rotate_left 1
                · (intro w' hSw; (try dsimp only at hSw); go_simp; try with_reducible rfl)
                simp only [Act.put, List.getElem_toArray, List.getElem_cons_zero, List.getElem_cons_succ, List.setIfInBounds_toArray, List.set_cons_zero, List.set_cons_succ]
                refine n_take (v := ?_) 2 rfl (Or.inl ⟨by rfl, ?_⟩) (by kernel_rfl) (fun _ _ _ h => h) (by assumption) ?_
                rotate_left 1
                · (intro w' hSw; (try dsimp only at hSw); go_simp; try with_reducible rfl)
                simp only [Act.put, List.getElem_toArray, List.getElem_cons_zero, List.getElem_cons_succ, List.setIfInBounds_toArray, List.set_cons_zero, List.set_cons_succ]
                refine n_take (v := ?_) 3 rfl (Or.inl ⟨by rfl, ?_⟩) (by kernel_rfl) (fun _ _ _ h => h) (by assumption) ?_
                rotate_left 1
                · (intro w' hSw; (try dsimp only at hSw); go_simp; try with_reducible rfl)
                simp only [Act.put, List.getElem_toArray, List.getElem_cons_zero, List.getElem_cons_succ, List.setIfInBounds_toArray, List.set_cons_zero, List.set_cons_succ]
                refine n_take (v := ?_) 4 rfl (Or.inl ⟨by rfl, ?_⟩) (by kernel_rfl) (fun _ _ _ h => h) (by assumption) ?_
                rotate_left 1
                · (intro w' hSw; (try dsimp only at hSw); go_simp; try with_reducible rfl)
                simp only [Act.put, List.getElem_toArray, List.getElem_cons_zero, List.getElem_cons_succ, List.setIfInBounds_toArray, List.set_cons_zero, List.set_cons_succ]
                refine n_take (v := ?_) 5 rfl (Or.inl ⟨by rfl, ?_⟩) (by kernel_rfl) (fun _ _ _ h => h) (by assumption) ?_
                rotate_left 1
                · (intro w' hSw; (try dsimp only at hSw); go_simp; try with_reducible rfl)
                simp only [Act.put, List.getElem_toArray, List.getElem_cons_zero, List.getElem_cons_succ, List.setIfInBounds_toArray, List.set_cons_zero, List.set_cons_succ]
                refine n_take (v := ?_) 6 rfl (Or.inl ⟨by rfl, ?_⟩) (by kernel_rfl) (fun _ _ _ h => h) (by assumption) ?_
                rotate_left 1
                · (intro w' hSw; (try dsimp only at hSw); go_simp; try with_reducible rfl)
                simp only [Act.put, List.getElem_toArray, List.getElem_cons_zero, List.getElem_cons_succ, List.setIfInBounds_toArray, List.set_cons_zero, List.set_cons_succ]
                refine n_take (v := ?_) 7 rfl (Or.inl ⟨by rfl, ?_⟩) (by kernel_rfl) (fun _ _ _ h => h) (by assumption) ?_
                rotate_left 1
                · (intro w' hSw; (try dsimp only at hSw); go_simp; try with_reducible rfl)
                simp only [Act.put, List.getElem_toArray, List.getElem_cons_zero, List.getElem_cons_succ, List.setIfInBounds_toArray, List.set_cons_zero, List.set_cons_succ]
                refine n_take (v := ?_) 8 rfl (Or.inl ⟨by rfl, ?_⟩) (by kernel_rfl) (fun _ _ _ h => h) (by assumption) ?_
                rotate_left 1
                · (intro w' hSw; (try dsimp only at hSw); go_simp; try with_reducible rfl)
                simp only [Act.put, List.getElem_toArray, List.getElem_cons_zero, List.getElem_cons_succ, List.setIfInBounds_toArray, List.set_cons_zero, List.set_cons_succ]
                refine n_take (v := ?_) 9 rfl (Or.inl ⟨by rfl, ?_⟩) (by kernel_rfl) (fun _ _ _ h => h) (by assumption) ?_
                rotate_left 1
                · (intro w' hSw; (try dsimp only at hSw); go_simp; try with_reducible rfl)
                simp only [Act.put, List.getElem_toArray, List.getElem_cons_zero, List.getElem_cons_succ, List.setIfInBounds_toArray, List.set_cons_zero, List.set_cons_succ]
                refine n_take (v := ?_) 10 rfl (Or.inl ⟨by rfl, ?_⟩) (by kernel_rfl) (fun _ _ _ h => h) (by assumption) ?_
                rotate_left 1
                · (intro w' hSw; (try dsimp only at hSw); go_simp; try with_reducible rfl)
                simp only [Act.put, List.getElem_toArray, List.getElem_cons_zero, List.getElem_cons_succ, List.setIfInBounds_toArray, List.set_cons_zero, List.set_cons_succ]
                refine n_take (v := ?_) 11 rfl (Or.inl ⟨by rfl, ?_⟩) (by kernel_rfl) (fun _ _ _ h => h) (by assumption) ?_
                rotate_left 1
                · (intro w' hSw; (try dsimp only at hSw); go_simp; try with_reducible rfl)
                simp only [Act.put, List.getElem_toArray, List.getElem_cons_zero, List.getElem_cons_succ, List.setIfInBounds_toArray, List.set_cons_zero, List.set_cons_succ]
                refine n_take (v := ?_) 12 rfl (Or.inl ⟨by rfl, ?_⟩) (by kernel_rfl) (fun _ _ _ h => h) (by assumption) ?_
                rotate_left 1
                · (intro w' hSw; (try dsimp only at hSw); go_simp; try with_reducible rfl)
                simp only [Act.put, List.getElem_toArray, List.getElem_cons_zero, List.getElem_cons_succ, List.setIfInBounds_toArray, List.set_cons_zero, List.set_cons_succ]
                refine n_take (v := ?_) 13 rfl (Or.inl ⟨by rfl, ?_⟩) (by kernel_rfl) (fun _ _ _ h => h) (by assumption) ?_
                rotate_left 1
                · (intro w' hSw; (try dsimp only at hSw); go_simp; try with_reducible rfl)
                simp only [Act.put, List.getElem_toArray, List.getElem_cons_zero, List.getElem_cons_succ, List.setIfInBounds_toArray, List.set_cons_zero, List.set_cons_succ]
                refine n_take (v := ?_) 14 rfl (Or.inl ⟨by rfl, ?_⟩) (by kernel_rfl) (fun _ _ _ h => h) (by assumption) ?_
                rotate_left 1
                · (intro w' hSw; (try dsimp only at hSw); go_simp; try with_reducible rfl)
                simp only [Act.put, List.getElem_toArray, List.getElem_cons_zero, List.getElem_cons_succ, List.setIfInBounds_toArray, List.set_cons_zero, List.set_cons_succ]
                refine n_take (v := ?_) 15 rfl (Or.inl ⟨by rfl, ?_⟩) (by kernel_rfl) (fun _ _ _ h => h) (by assumption) ?_
                rotate_left 1
                · (intro w' hSw; (try dsimp only at hSw); go_simp; (try simp only [hid']); try with_reducible rfl)
                simp only [Act.put, List.getElem_toArray, List.getElem_cons_zero, List.getElem_cons_succ, List.setIfInBounds_toArray, List.set_cons_zero, List.set_cons_succ]
                refine n_take (v := ?_) 16 rfl (Or.inl ⟨by rfl, ?_⟩) (by kernel_rfl) (fun _ _ _ h => h) (by assumption) ?_
                rotate_left 1
                · (intro w' hSw; (try dsimp only at hSw); go_simp; try with_reducible rfl)
                simp only [Act.put, List.getElem_toArray, List.getElem_cons_zero, List.getElem_cons_succ, List.setIfInBounds_toArray, List.set_cons_zero, List.set_cons_succ]
                refine n_done (by kernel_rfl) ?_
                go_wp2_with fail
                exact ⟨⟨k1 + 1, hk1', by go_num, Hnext.out, hcr1.drew⟩, by simp [intOf]; omega⟩
          · have hjl : j = B.length := by omega
            subst hjl
            clear d0 d1 d2 d3 d4
            have hp12 := hp11.keep hcr NoB.elim
            have lp12 := hp12.lt
            have hc012 := hc011.tr hcr
            have hcp12 := (hc7.tr (hc710.tr hc11)).tr hcr
            have d0 : wr.cell? ⟨w6.heap.size, 0, none⟩ = some (.int .i64 (ip)) := hp12.cell 0
            have d1 : wr.cell? ⟨w6.heap.size, 1, none⟩ = some (.string np) := hp12.cell 1
            have d2 : wr.cell? ⟨w6.heap.size, 2, none⟩ = some (.int .i64 (rp)) := hp12.cell 2
            have d3 : wr.cell? ⟨w6.heap.size, 3, none⟩ = some (.int .i64 (kp)) := hp12.cell 3
            have d4 : wr.cell? ⟨w6.heap.size, 4, none⟩ = some (.slice sa6 sp.length cap6) := hp12.cell 4
            go_wp2_with fail
            refine (ownNode_any _ (.mk ip np rp kp sp) wr _ _ (Nat.le_refl _) (hr6.chg0 hcp12) hokp).mono ?_
            rintro en w13 ⟨cs13, rfl, hr13, hc13⟩
            have hp13 := hp12.keep hc13 NoB.elim
            have hc013 := hc012.tr hc13
            obtain ⟨sv13, rfl, hs13⟩ := reads_nd.1 hr13
            obtain ⟨sa13, cap13, rfl, _, _, _⟩ := reads_subs hs13
            go_wp2_with fail
            refine (ints_any ids _ w13 T (hvi.chg0 hc013) (by omega)).mono ?_
            rintro en w14 ⟨a14, c14, rfl, hrd14, hc14⟩
            rw [List.length_map] at hrd14 ⊢
            have hp14 := hp13.keep hc14 NoB.elim
            have hc014 := hc013.tr hc14
            have hG14 := (hG.keep0 hc014).up hc014.size
            have hN14 := hN.keep0 hc014
            go_wp2_with fail
            refine (projectAll_any (.mk ip np rp kp sp) ids _ w14 _ _ _ E N hG14.errs hN14 hokp (hr13.lt.chg0 hc14) (fun b hb => by have := hc14.size; omega) hrd14).mono ?_
            rintro en w15 ⟨hc15, hm15⟩
            rw [Hagain.out] at hm15
            obtain ⟨cs15, rfl, hr15⟩ := hm15
            have hp15 := hp14.keep hc15 NoB.elim
            have hc015 := hc014.tr hc15
            obtain ⟨v15, rfl, hs15⟩ := reads_nd.1 hr15
            obtain ⟨sa15, cap15, rfl, _, _, _⟩ := reads_subs hs15
            clear d0 d1 d2 d3 d4
            have lp15 := hp15.lt
            have d0 : w15.cell? ⟨w6.heap.size, 0, none⟩ = some (.int .i64 (ip)) := hp15.cell 0
            have d1 : w15.cell? ⟨w6.heap.size, 1, none⟩ = some (.string np) := hp15.cell 1
            have d2 : w15.cell? ⟨w6.heap.size, 2, none⟩ = some (.int .i64 (rp)) := hp15.cell 2
            have d3 : w15.cell? ⟨w6.heap.size, 3, none⟩ = some (.int .i64 (kp)) := hp15.cell 3
            have d4 : w15.cell? ⟨w6.heap.size, 4, none⟩ = some (.slice sa6 sp.length cap6) := hp15.cell 4
            go_wp2_with fail
            generalize hw16 : World.alloc w15 _ = w16
            have hc16 : Chg NoB w15 w16 := by
              rw [← hw16]
              repeat (first | exact Chg.refl _ _ | apply Chg.alloc | apply Chg.drew)
            clear hw16
            refine (sameNode_yes _ (.mk ip np rp kp sp) w16 _ _ _ _ (Nat.le_refl _) (hr15.chg0 hc16) (hr6.chg0 (hcp12.tr (hc13.tr (hc14.tr (hc15.tr hc16))))) hokp).mono ?_
            rintro en w17 ⟨rfl, hc17⟩
            go_wp2_with fail
            go_ret
            exact ⟨rfl, (hc015.tr hc16).tr hc17⟩
end Go.Proofs.YtfbbfhhhfbibjaaDoor
