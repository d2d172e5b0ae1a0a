/-
  SchemaProjects: the walk, by the contracts.
-/
import Derived.Test.YtfbbfhhhfbibjaaGreatDoorPackJ
import Derived.Test.YtfbbfhhhfbibjaaGreatDoorProjOf
import Derived.Test.YtfbbfhhhfbibjaaGreatDoorProjAll
import Derived.Test.YtfbbfhhhfbibjaaGreatDoorPackG
set_option linter.unusedVariables false
set_option linter.unusedSimpArgs false
namespace Go.Proofs.YtfbbfhhhfbibjaaGreatDoor
open Go.RowKit

theorem project_okP {nd p : Nd} {ids : List Int} (h : projectF nd ids = .ok p) (hok : nd.ok) : p.ok := by
  have hv := (project_law h).1
  unfold projectF at h
  rw [hv] at h
  simp only at h
  obtain ⟨i, nm, r, k, s⟩ := nd
  cases ha : ids.any (fun i' => (findF (.mk i nm r k s) i').isNone) with
  | true => rw [ha] at h; cases h
  | false =>
    rw [ha] at h
    simp only [cond_false] at h
    cases hb : (subOf ids (Nd.mk i nm r k s).sub).isEmpty with
    | true => rw [hb] at h; cases h
    | false =>
      rw [hb] at h
      simp only [cond_false] at h
      obtain rfl := PJ.ok.inj h
      obtain ⟨h1, h2, h3, h4, h5, h6⟩ := hok
      unfold subOf
      by_cases h0 : has ids 0 = true
      · simp only [if_pos h0]; exact ⟨h1, h2, h3, h4, h5, h6⟩
      · simp only [if_neg h0]
        have := projL_len ids s
        exact ⟨h1, h2, h3, h4, by simp only [Nd.sub]; omega, projL_oks ids s h6⟩
theorem projRef_cases (nd : Nd) (ids : List Int) : projRef nd ids = .non ∨ projRef nd ids = .er .shape ∨ ∃ p, projRef nd ids = .ok p := by
  unfold projRef
  cases ids.any (fun i => (findP i (flatOf nd)).isNone) with
  | true => exact .inl rfl
  | false =>
    simp only [cond_false]
    cases (ids.flatMap (lvOf nd)).isEmpty with
    | true => exact .inr (.inl rfl)
    | false => exact .inr (.inr ⟨_, rfl⟩)

set_option maxHeartbeats 2000000 in
set_option maxRecDepth 100000 in
theorem projects_any (nd : Nd) (ids : List Int) (vi : Value) (w : World) (S T : Nat → Prop) (cs : List Value) (A : Nat → Addr) (E : Er → Value) (N : Value) (hG : Glo w.heap.size E w) (hN : Non w N) (hA : Named w A E N) (hok : nd.ok) (hr : Reads w S nd.dt cs) (hSB : ∀ b, S b → b < w.heap.size)
    (hvi : Reads w T (.list 1 (ids.map intDt)) [vi]) :
    Calls Tryz.prog 7 #[.agg cs.toArray, vi] w (RetV (.bool true) w) := by
  have hform := hG.errs.form
  have hok' := hok
  obtain ⟨i, nm, r, k, sb⟩ := nd
  have hr' := hr
  obtain ⟨sv', rfl, hs⟩ := reads_nd.1 hr'
  obtain ⟨sa, cap, rfl, hlen, hcap, hel⟩ := reads_subs hs
  have hvi' := hvi
  obtain ⟨va, vc, rfl, hvl, hvc, hve⟩ := reads_list hvi'
  rw [List.length_map] at *
  have hil63 : ids.length ≤ 9223372036854775807 := by unfold maxLen at hvc; omega
  go_enter Tryz.func7, Tryz.ntmps7
  go_wp2_with fail
  generalize hw1 : w.alloc _ = w1
  have hc1 : Chg NoB w w1 := by
    rw [← hw1]
    repeat (first | exact Chg.refl _ _ | apply Chg.alloc | apply Chg.drew)
  have hb1 : Blk w1 (w.heap.size) (ndCells i nm r k (.slice sa sb.length cap)) 24 := by
    rw [← hw1]
    repeat (first | exact Blk.newAt (by first | rfl | (simp; done) | (simp; omega)) | apply Blk.alloc | apply Blk.drew)
  clear hw1
  refine (leaf_any w1 E ((hG.keep0 hc1).up hc1.size)).mono ?_
  rintro en w2 ⟨rfl, hc2⟩
  have hb2 := hb1.keep hc2 NoB.elim
  have hc02 := hc1.tr hc2
  have c0 : w2.cell? ⟨w.heap.size, 0, none⟩ = some (.int .i64 (i)) := hb2.cell 0
  have c1 : w2.cell? ⟨w.heap.size, 1, none⟩ = some (.string nm) := hb2.cell 1
  have c2 : w2.cell? ⟨w.heap.size, 2, none⟩ = some (.int .i64 (r)) := hb2.cell 2
  have c3 : w2.cell? ⟨w.heap.size, 3, none⟩ = some (.int .i64 (k)) := hb2.cell 3
  have c4 : w2.cell? ⟨w.heap.size, 4, none⟩ = some (.slice sa sb.length cap) := hb2.cell 4
  go_wp2_with fail
  refine (tame_any (.mk i nm r k sb) w2 S _ (hr.chg0 hc02) hok).mono ?_
  rintro en w3 ⟨rfl, hc3⟩
  have hb3 := hb2.keep hc3 NoB.elim
  have hc03 := hc02.tr hc3
  have d0 : w3.cell? ⟨w.heap.size, 0, none⟩ = some (.int .i64 (i)) := hb3.cell 0
  have d1 : w3.cell? ⟨w.heap.size, 1, none⟩ = some (.string nm) := hb3.cell 1
  have d2 : w3.cell? ⟨w.heap.size, 2, none⟩ = some (.int .i64 (r)) := hb3.cell 2
  have d3 : w3.cell? ⟨w.heap.size, 3, none⟩ = some (.int .i64 (k)) := hb3.cell 3
  have d4 : w3.cell? ⟨w.heap.size, 4, none⟩ = some (.slice sa sb.length cap) := hb3.cell 4
  have l3 := hb3.lt
  cases ht : tameB (.mk i nm r k sb) with
  | false =>
    go_wp2_with fail
    go_ret
    exact ⟨rfl, hc03⟩
  | true =>
    by_cases hbig : 60 < ids.length
    · have hbig' : (60 : Int) < (ids.length : Int) := by omega
      go_wp2_with fail
      go_ret
      exact ⟨rfl, hc03⟩
    · have hbig' : ¬ (60 : Int) < (ids.length : Int) := by omega
      go_wp2_with fail
      refine (err_any (.mk i nm r k sb) w3 S _ (hr.chg0 hc03) hok).mono ?_
      rintro en w4 ⟨rfl, hc4⟩
      have hb4 := hb3.keep hc4 NoB.elim
      have hc04 := hc03.tr hc4
      clear c0 c1 c2 c3 c4 d0 d1 d2 d3 d4
      have c0 : w4.cell? ⟨w.heap.size, 0, none⟩ = some (.int .i64 (i)) := hb4.cell 0
      have c1 : w4.cell? ⟨w.heap.size, 1, none⟩ = some (.string nm) := hb4.cell 1
      have c2 : w4.cell? ⟨w.heap.size, 2, none⟩ = some (.int .i64 (r)) := hb4.cell 2
      have c3 : w4.cell? ⟨w.heap.size, 3, none⟩ = some (.int .i64 (k)) := hb4.cell 3
      have c4 : w4.cell? ⟨w.heap.size, 4, none⟩ = some (.slice sa sb.length cap) := hb4.cell 4
      have l4 := hb4.lt
      cases hv : validF (.mk i nm r k sb) with
      | some e =>
        obtain ⟨VT, Vv, hV⟩ := hform e
        have hP : ∀ a b c, RetPJ E N (projectF (.mk i nm r k sb) ids) a b c → Chg NoB a c ∧ b = .returned (.tuple #[zeroNode, .iface VT Vv]) := fun a b c h => by
          rw [show projectF (.mk i nm r k sb) ids = .er e from by unfold projectF; rw [hv]] at h
          exact ⟨h.1, by rw [← hV]; exact h.2⟩
        have hT : Told w A (.iface VT Vv) (errNum (some e)) (-1) := by rw [← hV]; exact hA.told e
        have hpos : 0 < errNum (some e) ∧ errNum (some e) ≤ 100 := by cases e <;> exact ⟨by decide, by decide⟩
        have hne0 : (errNum (some e) == 0) = false := by cases e <;> decide
        obtain ⟨hpos1, hpos2⟩ := hpos
        clear hv hV
        generalize errNum (some e) = ne at *
        have HP := Lib.hid hP
        have HT := Lib.hid hT
        clear hP hT
        go_wp2_with fail
        generalize hw5 : World.alloc w4 _ = w5
        have hc5 : Chg NoB w4 w5 := by
          rw [← hw5]
          repeat (first | exact Chg.refl _ _ | apply Chg.alloc | apply Chg.drew)
        have hn5 : Blk w5 (w4.heap.size) (ndCells 0 ⟨#[]⟩ 0 0 (.slice none 0 0)) 24 := by
          rw [← hw5]
          repeat (first | exact Blk.newAt (by first | rfl | (simp; done) | (simp; omega)) | apply Blk.alloc | apply Blk.drew)
        clear hw5
        have hc05 := hc04.tr hc5
        refine (ownNode_any _ (.mk i nm r k sb) w5 S _ (Nat.le_refl _) (hr.chg0 hc05) hok).mono ?_
        rintro en w6 ⟨cs6, rfl, hr6, hc6⟩
        have hc06 := (hc05).tr hc6
        obtain ⟨sv6, rfl, hs6⟩ := reads_nd.1 hr6
        obtain ⟨sa6, cap6, rfl, _, _, _⟩ := reads_subs hs6
        go_wp2_with fail
        refine (ints_any ids _ w6 T (hvi.chg0 hc06) (by omega)).mono ?_
        rintro en w7 ⟨a7, c7, rfl, hrd7, hc7⟩
        rw [List.length_map] at hrd7 ⊢
        have hr7 := hr6.lt.chg0 hc7
        have hc07 := hc06.tr hc7
        go_wp2_with fail
        refine (projectAll_any (.mk i nm r k sb) ids _ w7 _ _ _ E N (hG.errs.keep0 hc07) (hN.keep0 hc07) hok hr7 (fun b hb => by have := hb.2; have := hc7.size; omega) hrd7).mono ?_
        intro en w8 hm8
        have hHP := HP.out _ _ _ hm8
        clear hm8
        obtain ⟨hc8, rfl⟩ := hHP
        unfold zeroNode
        have hc08 := hc07.tr hc8
        have hc58 := (hc6.tr hc7).tr hc8
        have hn8 := (hn5).keep hc58 NoB.elim
        have ln8 := hn8.lt
        have e0 : w8.cell? ⟨w4.heap.size, 0, none⟩ = some (.int .i64 (0)) := hn8.cell 0
        have e1 : w8.cell? ⟨w4.heap.size, 1, none⟩ = some (.string ⟨#[]⟩) := hn8.cell 1
        have e2 : w8.cell? ⟨w4.heap.size, 2, none⟩ = some (.int .i64 (0)) := hn8.cell 2
        have e3 : w8.cell? ⟨w4.heap.size, 3, none⟩ = some (.int .i64 (0)) := hn8.cell 3
        have e4 : w8.cell? ⟨w4.heap.size, 4, none⟩ = some (.slice none 0 0) := hn8.cell 4
        go_wp2_with fail
        generalize hw9 : World.alloc w8 _ = w9
        have hc9 : Chg NoB w8 w9 := by
          rw [← hw9]
          repeat (first | exact Chg.refl _ _ | apply Chg.alloc | apply Chg.drew)
        clear hw9
        refine (isNode_err (.iface VT Vv) (ne) w9 _ zeroNd _ A (hA.sents.keep0 (hc08.tr hc9)) (HT.out.keep0 (hc08.tr hc9)) ⟨by omega, by omega⟩ ((zero_reads w5 (fun _ => False)).chg0 (hc58.tr hc9))).mono ?_
        rintro en w10 ⟨rfl, hc10⟩
        go_wp2_with fail
        go_ret
        exact ⟨rfl, (hc08.tr hc9).tr hc10⟩
      | none =>
        have hlaw := projRef_law (ids := ids) hok hv
        have hen : errNum none = 0 := rfl
        rw [hen]
        have hpo := fun (w : World) (cs : List Value) (S T : Nat → Prop) (v : Value) (h1 : Reads w S (Nd.dt (.mk i nm r k sb)) cs) (h2 : ∀ b, S b → b < w.heap.size) (h3 : Reads w T (.list 1 (ids.map intDt)) [v]) => projectOf_any (.mk i nm r k sb) ids v w S T cs hv h1 hok h2 h3 (by omega)
        have Hpo := Lib.hid hpo
        clear hen hpo
        go_wp2_with fail
        generalize hw5 : World.alloc w4 _ = w5
        have hc5 : Chg NoB w4 w5 := by
          rw [← hw5]
          repeat (first | exact Chg.refl _ _ | apply Chg.alloc | apply Chg.drew)
        have hn5 : Blk w5 (w4.heap.size) (ndCells 0 ⟨#[]⟩ 0 0 (.slice none 0 0)) 24 := by
          rw [← hw5]
          repeat (first | exact Blk.newAt (by first | rfl | (simp; done) | (simp; omega)) | apply Blk.alloc | apply Blk.drew)
        clear hw5
        have hc05 := hc04.tr hc5
        refine (Hpo.out w5 _ S T _ (hr.chg0 hc05) (fun b hb => by have := hSB b hb; have := hc05.size; omega) (hvi.chg0 hc05)).mono ?_
        rintro en w11 ⟨hc11, hm11⟩
        rcases projRef_cases (.mk i nm r k sb) ids with hpr | hpr | ⟨p, hpr⟩
        · obtain ⟨VT, Vv, hV⟩ := hN.form
          have hP : ∀ a b c, RetPJ E N (projectF (.mk i nm r k sb) ids) a b c → Chg NoB a c ∧ b = .returned (.tuple #[zeroNode, .iface VT Vv]) := fun a b c h => by
            rw [hlaw, hpr] at h
            exact ⟨h.1, by rw [← hV]; exact h.2⟩
          have hT : Told w A (.iface VT Vv) 6 (-1) := by rw [← hV]; exact hA.toldN
          rw [hpr] at hm11
          have HP := Lib.hid hP
          have HT := Lib.hid hT
          clear hP hT hpr hlaw hv hV
          obtain rfl := hm11
          have hc011 := hc05.tr hc11
          have hn11 := hn5.keep hc11 NoB.elim
          have hb11 := (hb4.keep hc5 NoB.elim).keep hc11 NoB.elim
          have ln11 := hn11.lt
          unfold zeroNode
          clear c0 c1 c2 c3 c4
          have c0 : w11.cell? ⟨w.heap.size, 0, none⟩ = some (.int .i64 (i)) := hb11.cell 0
          have c1 : w11.cell? ⟨w.heap.size, 1, none⟩ = some (.string nm) := hb11.cell 1
          have c2 : w11.cell? ⟨w.heap.size, 2, none⟩ = some (.int .i64 (r)) := hb11.cell 2
          have c3 : w11.cell? ⟨w.heap.size, 3, none⟩ = some (.int .i64 (k)) := hb11.cell 3
          have c4 : w11.cell? ⟨w.heap.size, 4, none⟩ = some (.slice sa sb.length cap) := hb11.cell 4
          have y0 : w11.cell? ⟨w4.heap.size, 0, none⟩ = some (.int .i64 (0)) := hn11.cell 0
          have y1 : w11.cell? ⟨w4.heap.size, 1, none⟩ = some (.string ⟨#[]⟩) := hn11.cell 1
          have y2 : w11.cell? ⟨w4.heap.size, 2, none⟩ = some (.int .i64 (0)) := hn11.cell 2
          have y3 : w11.cell? ⟨w4.heap.size, 3, none⟩ = some (.int .i64 (0)) := hn11.cell 3
          have y4 : w11.cell? ⟨w4.heap.size, 4, none⟩ = some (.slice none 0 0) := hn11.cell 4
          have z0 : w11.frozen? ⟨w4.heap.size, 0, none⟩ = false := hn11.free 0
          have z1 : w11.frozen? ⟨w4.heap.size, 1, none⟩ = false := hn11.free 1
          have z2 : w11.frozen? ⟨w4.heap.size, 2, none⟩ = false := hn11.free 2
          have z3 : w11.frozen? ⟨w4.heap.size, 3, none⟩ = false := hn11.free 3
          have z4 : w11.frozen? ⟨w4.heap.size, 4, none⟩ = false := hn11.free 4
          go_wp2_with fail
          have hn12 := store5 hn11 (.int .i64 0) (.string ⟨#[]⟩) (.int .i64 0) (.int .i64 0) (.slice none 0 0)
          have hb12 := store5_other (b := w4.heap.size) hb11 (by omega) (.int .i64 0) (.string ⟨#[]⟩) (.int .i64 0) (.int .i64 0) (.slice none 0 0)
          have hc012 := hc011.trans (store5_chg w11 w4.heap.size (.int .i64 0) (.string ⟨#[]⟩) (.int .i64 0) (.int .i64 0) (.slice none 0 0)) (fun x e => .inr (by have e : x = w4.heap.size := e; have := hc04.size; omega))
          generalize hw12 : World.setCell _ _ (Value.slice none 0 0) = w12 at hn12 hb12 hc012 ⊢
          clear hw12 y0 y1 y2 y3 y4 z0 z1 z2 z3 z4 c0 c1 c2 c3 c4
          refine (ownNode_any _ (.mk i nm r k sb) w12 S _ (Nat.le_refl _) (hr.chg0 hc012) hok).mono ?_
          rintro en w6 ⟨cs6, rfl, hr6, hc6⟩
          have hc06 := (hc012).tr hc6
          obtain ⟨sv6, rfl, hs6⟩ := reads_nd.1 hr6
          obtain ⟨sa6, cap6, rfl, _, _, _⟩ := reads_subs hs6
          go_wp2_with fail
          refine (ints_any ids _ w6 T (hvi.chg0 hc06) (by omega)).mono ?_
          rintro en w7 ⟨a7, c7, rfl, hrd7, hc7⟩
          rw [List.length_map] at hrd7 ⊢
          have hr7 := hr6.lt.chg0 hc7
          have hc07 := hc06.tr hc7
          go_wp2_with fail
          refine (projectAll_any (.mk i nm r k sb) ids _ w7 _ _ _ E N (hG.errs.keep0 hc07) (hN.keep0 hc07) hok hr7 (fun b hb => by have := hb.2; have := hc7.size; omega) hrd7).mono ?_
          intro en w8 hm8
          have hHP := HP.out _ _ _ hm8
          clear hm8
          obtain ⟨hc8, rfl⟩ := hHP
          unfold zeroNode
          have hc08 := hc07.tr hc8
          have hc58 := (hc6.tr hc7).tr hc8
          have hn8 := (hn12).keep hc58 NoB.elim
          have ln8 := hn8.lt
          have e0 : w8.cell? ⟨w4.heap.size, 0, none⟩ = some (.int .i64 (0)) := hn8.cell 0
          have e1 : w8.cell? ⟨w4.heap.size, 1, none⟩ = some (.string ⟨#[]⟩) := hn8.cell 1
          have e2 : w8.cell? ⟨w4.heap.size, 2, none⟩ = some (.int .i64 (0)) := hn8.cell 2
          have e3 : w8.cell? ⟨w4.heap.size, 3, none⟩ = some (.int .i64 (0)) := hn8.cell 3
          have e4 : w8.cell? ⟨w4.heap.size, 4, none⟩ = some (.slice none 0 0) := hn8.cell 4
          go_wp2_with fail
          generalize hw9 : World.alloc w8 _ = w9
          have hc9 : Chg NoB w8 w9 := by
            rw [← hw9]
            repeat (first | exact Chg.refl _ _ | apply Chg.alloc | apply Chg.drew)
          clear hw9
          refine (isNode_err (.iface VT Vv) (6) w9 _ zeroNd _ A (hA.sents.keep0 (hc08.tr hc9)) (HT.out.keep0 (hc08.tr hc9)) ⟨by omega, by omega⟩ ((zero_reads w12 (fun _ => False)).chg0 (hc58.tr hc9))).mono ?_
          rintro en w10 ⟨rfl, hc10⟩
          go_wp2_with fail
          go_ret
          exact ⟨rfl, (hc08.tr hc9).tr hc10⟩
        · obtain ⟨VT, Vv, hV⟩ := hform .shape
          have hP : ∀ a b c, RetPJ E N (projectF (.mk i nm r k sb) ids) a b c → Chg NoB a c ∧ b = .returned (.tuple #[zeroNode, .iface VT Vv]) := fun a b c h => by
            rw [hlaw, hpr] at h
            exact ⟨h.1, by rw [← hV]; exact h.2⟩
          have hT : Told w A (.iface VT Vv) 3 (-1) := by rw [← hV]; exact hA.told .shape
          rw [hpr] at hm11
          have HP := Lib.hid hP
          have HT := Lib.hid hT
          clear hP hT hpr hlaw hv hV
          obtain rfl := hm11
          have hc011 := hc05.tr hc11
          have hn11 := hn5.keep hc11 NoB.elim
          have hb11 := (hb4.keep hc5 NoB.elim).keep hc11 NoB.elim
          have ln11 := hn11.lt
          unfold zeroNode
          clear c0 c1 c2 c3 c4
          have c0 : w11.cell? ⟨w.heap.size, 0, none⟩ = some (.int .i64 (i)) := hb11.cell 0
          have c1 : w11.cell? ⟨w.heap.size, 1, none⟩ = some (.string nm) := hb11.cell 1
          have c2 : w11.cell? ⟨w.heap.size, 2, none⟩ = some (.int .i64 (r)) := hb11.cell 2
          have c3 : w11.cell? ⟨w.heap.size, 3, none⟩ = some (.int .i64 (k)) := hb11.cell 3
          have c4 : w11.cell? ⟨w.heap.size, 4, none⟩ = some (.slice sa sb.length cap) := hb11.cell 4
          have y0 : w11.cell? ⟨w4.heap.size, 0, none⟩ = some (.int .i64 (0)) := hn11.cell 0
          have y1 : w11.cell? ⟨w4.heap.size, 1, none⟩ = some (.string ⟨#[]⟩) := hn11.cell 1
          have y2 : w11.cell? ⟨w4.heap.size, 2, none⟩ = some (.int .i64 (0)) := hn11.cell 2
          have y3 : w11.cell? ⟨w4.heap.size, 3, none⟩ = some (.int .i64 (0)) := hn11.cell 3
          have y4 : w11.cell? ⟨w4.heap.size, 4, none⟩ = some (.slice none 0 0) := hn11.cell 4
          have z0 : w11.frozen? ⟨w4.heap.size, 0, none⟩ = false := hn11.free 0
          have z1 : w11.frozen? ⟨w4.heap.size, 1, none⟩ = false := hn11.free 1
          have z2 : w11.frozen? ⟨w4.heap.size, 2, none⟩ = false := hn11.free 2
          have z3 : w11.frozen? ⟨w4.heap.size, 3, none⟩ = false := hn11.free 3
          have z4 : w11.frozen? ⟨w4.heap.size, 4, none⟩ = false := hn11.free 4
          go_wp2_with fail
          have hn12 := store5 hn11 (.int .i64 0) (.string ⟨#[]⟩) (.int .i64 0) (.int .i64 0) (.slice none 0 0)
          have hb12 := store5_other (b := w4.heap.size) hb11 (by omega) (.int .i64 0) (.string ⟨#[]⟩) (.int .i64 0) (.int .i64 0) (.slice none 0 0)
          have hc012 := hc011.trans (store5_chg w11 w4.heap.size (.int .i64 0) (.string ⟨#[]⟩) (.int .i64 0) (.int .i64 0) (.slice none 0 0)) (fun x e => .inr (by have e : x = w4.heap.size := e; have := hc04.size; omega))
          generalize hw12 : World.setCell _ _ (Value.slice none 0 0) = w12 at hn12 hb12 hc012 ⊢
          clear hw12 y0 y1 y2 y3 y4 z0 z1 z2 z3 z4 c0 c1 c2 c3 c4
          refine (ownNode_any _ (.mk i nm r k sb) w12 S _ (Nat.le_refl _) (hr.chg0 hc012) hok).mono ?_
          rintro en w6 ⟨cs6, rfl, hr6, hc6⟩
          have hc06 := (hc012).tr hc6
          obtain ⟨sv6, rfl, hs6⟩ := reads_nd.1 hr6
          obtain ⟨sa6, cap6, rfl, _, _, _⟩ := reads_subs hs6
          go_wp2_with fail
          refine (ints_any ids _ w6 T (hvi.chg0 hc06) (by omega)).mono ?_
          rintro en w7 ⟨a7, c7, rfl, hrd7, hc7⟩
          rw [List.length_map] at hrd7 ⊢
          have hr7 := hr6.lt.chg0 hc7
          have hc07 := hc06.tr hc7
          go_wp2_with fail
          refine (projectAll_any (.mk i nm r k sb) ids _ w7 _ _ _ E N (hG.errs.keep0 hc07) (hN.keep0 hc07) hok hr7 (fun b hb => by have := hb.2; have := hc7.size; omega) hrd7).mono ?_
          intro en w8 hm8
          have hHP := HP.out _ _ _ hm8
          clear hm8
          obtain ⟨hc8, rfl⟩ := hHP
          unfold zeroNode
          have hc08 := hc07.tr hc8
          have hc58 := (hc6.tr hc7).tr hc8
          have hn8 := (hn12).keep hc58 NoB.elim
          have ln8 := hn8.lt
          have e0 : w8.cell? ⟨w4.heap.size, 0, none⟩ = some (.int .i64 (0)) := hn8.cell 0
          have e1 : w8.cell? ⟨w4.heap.size, 1, none⟩ = some (.string ⟨#[]⟩) := hn8.cell 1
          have e2 : w8.cell? ⟨w4.heap.size, 2, none⟩ = some (.int .i64 (0)) := hn8.cell 2
          have e3 : w8.cell? ⟨w4.heap.size, 3, none⟩ = some (.int .i64 (0)) := hn8.cell 3
          have e4 : w8.cell? ⟨w4.heap.size, 4, none⟩ = some (.slice none 0 0) := hn8.cell 4
          go_wp2_with fail
          generalize hw9 : World.alloc w8 _ = w9
          have hc9 : Chg NoB w8 w9 := by
            rw [← hw9]
            repeat (first | exact Chg.refl _ _ | apply Chg.alloc | apply Chg.drew)
          clear hw9
          refine (isNode_err (.iface VT Vv) (3) w9 _ zeroNd _ A (hA.sents.keep0 (hc08.tr hc9)) (HT.out.keep0 (hc08.tr hc9)) ⟨by omega, by omega⟩ ((zero_reads w12 (fun _ => False)).chg0 (hc58.tr hc9))).mono ?_
          rintro en w10 ⟨rfl, hc10⟩
          go_wp2_with fail
          go_ret
          exact ⟨rfl, (hc08.tr hc9).tr hc10⟩
        · have hokp := project_okP (hlaw.trans hpr) hok
          have hP : ∀ a b c, RetPJ E N (projectF (.mk i nm r k sb) ids) a b c → Chg NoB a c ∧ ∃ cs, b = .returned (.tuple #[.agg cs.toArray, .nilIface]) ∧ Reads c (fun x => a.heap.size ≤ x) p.dt cs := fun a b c h => by
            rw [hlaw, hpr] at h
            exact h
          rw [hpr] at hm11
          have HP := Lib.hid hP
          clear hP hpr hlaw hv
          obtain ⟨ip, np, rp, kp, sp⟩ := p
          obtain ⟨cs11, rfl, hr11⟩ := hm11
          obtain ⟨v11, rfl, hs11⟩ := reads_nd.1 hr11
          obtain ⟨sa11, cap11, rfl, _, _, _⟩ := reads_subs hs11
          have hc011 := hc05.tr hc11
          have hn11 := hn5.keep hc11 NoB.elim
          have hb11 := (hb4.keep hc5 NoB.elim).keep hc11 NoB.elim
          have ln11 := hn11.lt
          have ln5 := hn5.lt
          clear c0 c1 c2 c3 c4
          have c0 : w11.cell? ⟨w.heap.size, 0, none⟩ = some (.int .i64 (i)) := hb11.cell 0
          have c1 : w11.cell? ⟨w.heap.size, 1, none⟩ = some (.string nm) := hb11.cell 1
          have c2 : w11.cell? ⟨w.heap.size, 2, none⟩ = some (.int .i64 (r)) := hb11.cell 2
          have c3 : w11.cell? ⟨w.heap.size, 3, none⟩ = some (.int .i64 (k)) := hb11.cell 3
          have c4 : w11.cell? ⟨w.heap.size, 4, none⟩ = some (.slice sa sb.length cap) := hb11.cell 4
          have y0 : w11.cell? ⟨w4.heap.size, 0, none⟩ = some (.int .i64 (0)) := hn11.cell 0
          have y1 : w11.cell? ⟨w4.heap.size, 1, none⟩ = some (.string ⟨#[]⟩) := hn11.cell 1
          have y2 : w11.cell? ⟨w4.heap.size, 2, none⟩ = some (.int .i64 (0)) := hn11.cell 2
          have y3 : w11.cell? ⟨w4.heap.size, 3, none⟩ = some (.int .i64 (0)) := hn11.cell 3
          have y4 : w11.cell? ⟨w4.heap.size, 4, none⟩ = some (.slice none 0 0) := hn11.cell 4
          have z0 : w11.frozen? ⟨w4.heap.size, 0, none⟩ = false := hn11.free 0
          have z1 : w11.frozen? ⟨w4.heap.size, 1, none⟩ = false := hn11.free 1
          have z2 : w11.frozen? ⟨w4.heap.size, 2, none⟩ = false := hn11.free 2
          have z3 : w11.frozen? ⟨w4.heap.size, 3, none⟩ = false := hn11.free 3
          have z4 : w11.frozen? ⟨w4.heap.size, 4, none⟩ = false := hn11.free 4
          go_wp2_with fail
          have hn12 := store5 hn11 (.int .i64 ip) (.string np) (.int .i64 rp) (.int .i64 kp) (.slice sa11 sp.length cap11)
          have hb12 := store5_other (b := w4.heap.size) hb11 (by omega) (.int .i64 ip) (.string np) (.int .i64 rp) (.int .i64 kp) (.slice sa11 sp.length cap11)
          have hone := store5_chg w11 w4.heap.size (.int .i64 ip) (.string np) (.int .i64 rp) (.int .i64 kp) (.slice sa11 sp.length cap11)
          have hc012 := hc011.trans hone (fun x e => .inr (by have e : x = w4.heap.size := e; have := hc04.size; omega))
          have hr12 := hr11.chg hone (fun x hx e => by have e : x = w4.heap.size := e; have hx : w5.heap.size ≤ x := hx; omega)
          generalize hw12 : World.setCell _ _ (Value.slice sa11 sp.length cap11) = w12 at hn12 hb12 hc012 hr12 ⊢
          clear hw12 y0 y1 y2 y3 y4 z0 z1 z2 z3 z4 c0 c1 c2 c3 c4 hone
          refine (ownNode_any _ (.mk i nm r k sb) w12 S _ (Nat.le_refl _) (hr.chg0 hc012) hok).mono ?_
          rintro en w6 ⟨cs6, rfl, hr6, hc6⟩
          have hc06 := (hc012).tr hc6
          obtain ⟨sv6, rfl, hs6⟩ := reads_nd.1 hr6
          obtain ⟨sa6, cap6, rfl, _, _, _⟩ := reads_subs hs6
          go_wp2_with fail
          refine (ints_any ids _ w6 T (hvi.chg0 hc06) (by omega)).mono ?_
          rintro en w7 ⟨a7, c7, rfl, hrd7, hc7⟩
          rw [List.length_map] at hrd7 ⊢
          have hr7 := hr6.lt.chg0 hc7
          have hc07 := hc06.tr hc7
          go_wp2_with fail
          refine (projectAll_any (.mk i nm r k sb) ids _ w7 _ _ _ E N (hG.errs.keep0 hc07) (hN.keep0 hc07) hok hr7 (fun b hb => by have := hb.2; have := hc7.size; omega) hrd7).mono ?_
          intro en w8 hm8
          have hHP := HP.out _ _ _ hm8
          clear hm8
          obtain ⟨hc8, cs8, rfl, hr8⟩ := hHP
          obtain ⟨v8, rfl, hs8⟩ := reads_nd.1 hr8
          obtain ⟨sa8, cap8, rfl, _, _, _⟩ := reads_subs hs8
          have hc08 := hc07.tr hc8
          have hc58 := (hc6.tr hc7).tr hc8
          have hn8 := (hn12).keep hc58 NoB.elim
          have ln8 := hn8.lt
          have e0 : w8.cell? ⟨w4.heap.size, 0, none⟩ = some (.int .i64 (ip)) := hn8.cell 0
          have e1 : w8.cell? ⟨w4.heap.size, 1, none⟩ = some (.string np) := hn8.cell 1
          have e2 : w8.cell? ⟨w4.heap.size, 2, none⟩ = some (.int .i64 (rp)) := hn8.cell 2
          have e3 : w8.cell? ⟨w4.heap.size, 3, none⟩ = some (.int .i64 (kp)) := hn8.cell 3
          have e4 : w8.cell? ⟨w4.heap.size, 4, none⟩ = some (.slice sa11 sp.length cap11) := hn8.cell 4
          go_wp2_with fail
          generalize hw9 : World.alloc w8 _ = w9
          have hc9 : Chg NoB w8 w9 := by
            rw [← hw9]
            repeat (first | exact Chg.refl _ _ | apply Chg.alloc | apply Chg.drew)
          clear hw9
          refine (isNode_ok w9 _ _ (.mk ip np rp kp sp) _ _ (hr8.chg0 hc9) (hr12.chg0 (hc58.tr hc9)) hokp).mono ?_
          rintro en w10 ⟨rfl, hc10⟩
          go_wp2_with fail
          go_ret
          exact ⟨rfl, (hc08.tr hc9).tr hc10⟩
end Go.Proofs.YtfbbfhhhfbibjaaGreatDoor
