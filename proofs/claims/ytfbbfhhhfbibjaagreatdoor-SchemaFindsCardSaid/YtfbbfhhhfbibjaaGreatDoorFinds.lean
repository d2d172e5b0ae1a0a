/-
  SchemaFinds: the walk, by the contracts.
-/
import Derived.Test.YtfbbfhhhfbibjaaGreatDoorFindLaw
import Derived.Test.YtfbbfhhhfbibjaaGreatDoorSchErr
import Derived.Test.YtfbbfhhhfbibjaaGreatDoorIsNode
import Derived.Test.YtfbbfhhhfbibjaaGreatDoorSameInts
import Derived.Test.YtfbbfhhhfbibjaaGreatDoorLeaf
namespace Go.Proofs.YtfbbfhhhfbibjaaGreatDoor
open Go.RowKit

theorem err_any (nd : Nd) (w : World) (S : Nat → Prop) (cs : List Value) (hr : Reads w S nd.dt cs) (hok : nd.ok) :
    Calls Tryz.prog 10 #[.agg cs.toArray] w (RetV (.int .i64 (errNum (validF nd))) w) := by
  refine (schemaError_any nd w S cs hr hok).mono ?_
  rintro en w' ⟨r, rfl, hs, hc⟩
  rw [err_law hs]
  exact ⟨rfl, hc⟩

set_option maxHeartbeats 2000000 in
set_option maxRecDepth 100000 in
theorem finds_any (nd : Nd) (id : Int) (w : World) (S : Nat → Prop) (cs : List Value) (A : Nat → Addr) (E : Er → Value) (N : Value) (_hid : I64 id) (hG : Glo w.heap.size E w) (hN : Non w N) (hA : Named w A E N) (hok : nd.ok) (hr : Reads w S nd.dt cs) (hSB : ∀ b, S b → b < w.heap.size) :
    Calls Tryz.prog 6 #[.agg cs.toArray, .int .i64 id] w (RetV (.bool true) w) := by
  have hform := hG.errs.form
  have hok' := hok
  obtain ⟨i, nm, r, k, sb⟩ := nd
  have hr' := hr
  obtain ⟨sv', rfl, hs⟩ := reads_nd.1 hr'
  obtain ⟨sa, cap, rfl, hlen, hcap, hel⟩ := reads_subs hs
  go_enter Tryz.func6, Tryz.ntmps6
  go_wp2_with fail
  generalize hw1 : w.alloc _ = w1
  have hc1 : Chg NoB w w1 := by
    rw [← hw1]
    repeat (first | exact Chg.refl _ _ | apply Chg.alloc | apply Chg.drew)
  have hb1 : Blk w1 (w.heap.size) (ndCells i nm r k (.slice sa sb.length cap)) 24 := by
    rw [← hw1]
    repeat (first | exact Blk.newAt (by first | rfl | (simp; done) | (simp; omega)) | apply Blk.alloc | apply Blk.drew)
  clear hw1
  refine (leaf_any w1 E ((hG.keep0 hc1).up hc1.size)).mono ?_
  rintro en w2 ⟨rfl, hc2⟩
  have hb2 := hb1.keep hc2 NoB.elim
  have hc02 := hc1.tr hc2
  have c0 : w2.cell? ⟨w.heap.size, 0, none⟩ = some (.int .i64 (i)) := hb2.cell 0
  have c1 : w2.cell? ⟨w.heap.size, 1, none⟩ = some (.string nm) := hb2.cell 1
  have c2 : w2.cell? ⟨w.heap.size, 2, none⟩ = some (.int .i64 (r)) := hb2.cell 2
  have c3 : w2.cell? ⟨w.heap.size, 3, none⟩ = some (.int .i64 (k)) := hb2.cell 3
  have c4 : w2.cell? ⟨w.heap.size, 4, none⟩ = some (.slice sa sb.length cap) := hb2.cell 4
  go_wp2_with fail
  refine (tame_any (.mk i nm r k sb) w2 S _ (hr.chg0 hc02) hok).mono ?_
  rintro en w3 ⟨rfl, hc3⟩
  have hb3 := hb2.keep hc3 NoB.elim
  have hc03 := hc02.tr hc3
  have d0 : w3.cell? ⟨w.heap.size, 0, none⟩ = some (.int .i64 (i)) := hb3.cell 0
  have d1 : w3.cell? ⟨w.heap.size, 1, none⟩ = some (.string nm) := hb3.cell 1
  have d2 : w3.cell? ⟨w.heap.size, 2, none⟩ = some (.int .i64 (r)) := hb3.cell 2
  have d3 : w3.cell? ⟨w.heap.size, 3, none⟩ = some (.int .i64 (k)) := hb3.cell 3
  have d4 : w3.cell? ⟨w.heap.size, 4, none⟩ = some (.slice sa sb.length cap) := hb3.cell 4
  have l3 := hb3.lt
  cases ht : tameB (.mk i nm r k sb) with
  | false =>
    go_wp2_with fail
    go_ret
    exact ⟨rfl, hc03⟩
  | true =>
    go_wp2_with fail
    refine (err_any (.mk i nm r k sb) w3 S _ (hr.chg0 hc03) hok).mono ?_
    rintro en w4 ⟨rfl, hc4⟩
    have hb4 := hb3.keep hc4 NoB.elim
    have hc04 := hc03.tr hc4
    clear c0 c1 c2 c3 c4 d0 d1 d2 d3 d4
    have c0 : w4.cell? ⟨w.heap.size, 0, none⟩ = some (.int .i64 (i)) := hb4.cell 0
    have c1 : w4.cell? ⟨w.heap.size, 1, none⟩ = some (.string nm) := hb4.cell 1
    have c2 : w4.cell? ⟨w.heap.size, 2, none⟩ = some (.int .i64 (r)) := hb4.cell 2
    have c3 : w4.cell? ⟨w.heap.size, 3, none⟩ = some (.int .i64 (k)) := hb4.cell 3
    have c4 : w4.cell? ⟨w.heap.size, 4, none⟩ = some (.slice sa sb.length cap) := hb4.cell 4
    have l4 := hb4.lt
    go_wp2_with fail
    refine (findOf_any (.mk i nm r k sb) id w4 S _ (hr.chg0 hc04) hok (fun b hb => by have := hSB b hb; have := hc04.size; omega)).mono ?_
    rintro en w5 ⟨hc5, hm5⟩
    have hb5 := hb4.keep hc5 NoB.elim
    have hc05 := hc04.tr hc5
    have l5 := hb5.lt
    clear c0 c1 c2 c3 c4
    have c0 : w5.cell? ⟨w.heap.size, 0, none⟩ = some (.int .i64 (i)) := hb5.cell 0
    have c1 : w5.cell? ⟨w.heap.size, 1, none⟩ = some (.string nm) := hb5.cell 1
    have c2 : w5.cell? ⟨w.heap.size, 2, none⟩ = some (.int .i64 (r)) := hb5.cell 2
    have c3 : w5.cell? ⟨w.heap.size, 3, none⟩ = some (.int .i64 (k)) := hb5.cell 3
    have c4 : w5.cell? ⟨w.heap.size, 4, none⟩ = some (.slice sa sb.length cap) := hb5.cell 4
    -- what came back, as one node and one bool
    have hwant : ∃ (p : Nd) (pc : List Value) (isB : Bool), en = .returned (.tuple #[.agg pc.toArray, .bool isB]) ∧ Reads w5 (fun b => S b ∨ w4.heap.size ≤ b) p.dt pc ∧ (findP id (flatOf (.mk i nm r k sb))).isSome = isB ∧ (isB = true → (findP id (flatOf (.mk i nm r k sb))).map Pl.n = some p) := by
      cases hf : findP id (flatOf (.mk i nm r k sb)) with
      | none =>
        rw [hf] at hm5
        exact ⟨zeroNd, _, false, hm5, zero_reads _ _, rfl, fun e => by cases e⟩
      | some p =>
        rw [hf] at hm5
        obtain ⟨pc, h1, h2⟩ := hm5
        exact ⟨p.n, pc, true, h1, h2, rfl, fun _ => rfl⟩
    clear hm5
    obtain ⟨p, pc, isB, rfl, hrp, his, hsome⟩ := hwant
    obtain ⟨ip, np, rp, kp, sp⟩ := p
    obtain ⟨vp, rfl, hsp⟩ := reads_nd.1 hrp
    obtain ⟨sap, capp, rfl, _, _, _⟩ := reads_subs hsp
    cases hv : validF (.mk i nm r k sb) with
    | some e =>
      obtain ⟨VT, Vv, hV⟩ := hform e
      have hF : ∀ a b c, RetPJ E N (findR (.mk i nm r k sb) id) a b c → Chg NoB a c ∧ b = .returned (.tuple #[zeroNode, .iface VT Vv]) := fun a b c h => by
        rw [show findR (.mk i nm r k sb) id = .er e from by unfold findR; rw [hv]] at h
        exact ⟨h.1, by rw [← hV]; exact h.2⟩
      have hU : ∀ a b c, RetUn E N (findR (.mk i nm r k sb) id) a b c → Chg NoB a c ∧ b = .returned (.tuple #[.slice none 0 0, .iface VT Vv]) := fun a b c h => by
        rw [show findR (.mk i nm r k sb) id = .er e from by unfold findR; rw [hv]] at h
        exact ⟨h.1, by rw [← hV]; exact h.2⟩
      have hT : Told w A (.iface VT Vv) (errNum (some e)) (-1) := by rw [← hV]; exact hA.told e
      have hpos : 0 < errNum (some e) ∧ errNum (some e) ≤ 100 := by cases e <;> exact ⟨by decide, by decide⟩
      have hne0 : (errNum (some e) == 0) = false := by cases e <;> decide
      obtain ⟨hpos1, hpos2⟩ := hpos
      clear hsome his hv hV
      generalize errNum (some e) = ne at *
      have HF := Lib.hid hF
      have HU := Lib.hid hU
      have HT := Lib.hid hT
      clear hF hU hT
      go_wp2_with fail
      generalize hw6 : World.alloc w5 _ = w6
      have hc6 : Chg NoB w5 w6 := by
        rw [← hw6]
        repeat (first | exact Chg.refl _ _ | apply Chg.alloc | apply Chg.drew)
      have hp6 : Blk w6 (w5.heap.size) (ndCells ip np rp kp (.slice sap sp.length capp)) 24 := by
        rw [← hw6]
        repeat (first | exact Blk.newAt (by first | rfl | (simp; done) | (simp; omega)) | apply Blk.alloc | apply Blk.drew)
      clear hw6
      have hb6 := hb5.keep hc6 NoB.elim
      have hc06 := hc05.tr hc6
      refine (ownNode_any _ (.mk i nm r k sb) w6 S _ (Nat.le_refl _) (hr.chg0 hc06) hok).mono ?_
      rintro en w7 ⟨cs7, rfl, hr7, hc7⟩
      have hb7 := hb6.keep hc7 NoB.elim
      have hp7 := hp6.keep hc7 NoB.elim
      have hc07 := hc06.tr hc7
      obtain ⟨sv7, rfl, hs7⟩ := reads_nd.1 hr7
      obtain ⟨sa7, cap7, rfl, _, _, _⟩ := reads_subs hs7
      go_wp2_with fail
      refine (find_any (.mk i nm r k sb) id w7 _ _ E N (hG.errs.keep0 hc07) (hN.keep0 hc07) hok hr7.lt (fun b hb => hb.2)).mono ?_
      intro en w8 hm8
      obtain ⟨hc8, rfl⟩ := HF.out _ _ _ hm8
      clear hm8
      have hb8 := hb7.keep hc8 NoB.elim
      have hp8 := hp7.keep hc8 NoB.elim
      have hc08 := hc07.tr hc8
      unfold zeroNode
      clear c0 c1 c2 c3 c4
      have c0 : w8.cell? ⟨w.heap.size, 0, none⟩ = some (.int .i64 (i)) := hb8.cell 0
      have c1 : w8.cell? ⟨w.heap.size, 1, none⟩ = some (.string nm) := hb8.cell 1
      have c2 : w8.cell? ⟨w.heap.size, 2, none⟩ = some (.int .i64 (r)) := hb8.cell 2
      have c3 : w8.cell? ⟨w.heap.size, 3, none⟩ = some (.int .i64 (k)) := hb8.cell 3
      have c4 : w8.cell? ⟨w.heap.size, 4, none⟩ = some (.slice sa sb.length cap) := hb8.cell 4
      have l8 := hb8.lt
      go_wp2_with fail
      generalize hw9 : World.alloc w8 _ = w9
      have hc9 : Chg NoB w8 w9 := by
        rw [← hw9]
        repeat (first | exact Chg.refl _ _ | apply Chg.alloc | apply Chg.drew)
      have hn9 : Blk w9 (w8.heap.size) (ndCells 0 ⟨#[]⟩ 0 0 (.slice none 0 0)) 24 := by
        rw [← hw9]
        repeat (first | exact Blk.newAt (by first | rfl | (simp; done) | (simp; omega)) | apply Blk.alloc | apply Blk.drew)
      clear hw9
      have hp9 := hp8.keep hc9 NoB.elim
      have hc09 := hc08.tr hc9
      refine (ownNode_any _ (.mk i nm r k sb) w9 S _ (Nat.le_refl _) (hr.chg0 hc09) hok).mono ?_
      rintro en w10 ⟨cs10, rfl, hr10, hc10⟩
      have hp10 := hp9.keep hc10 NoB.elim
      have hn10 := hn9.keep hc10 NoB.elim
      have hc010 := hc09.tr hc10
      obtain ⟨sv10, rfl, hs10⟩ := reads_nd.1 hr10
      obtain ⟨sa10, cap10, rfl, _, _, _⟩ := reads_subs hs10
      go_wp2_with fail
      refine (under_any (.mk i nm r k sb) id w10 _ _ E N (hG.errs.keep0 hc010) (hN.keep0 hc010) hok hr10.lt (fun b hb => hb.2) (fun n h => by have h9 := found_small hok h; exact ⟨h9.1, by omega, by omega⟩)).mono ?_
      intro en w11 hm11
      obtain ⟨hc11, rfl⟩ := HU.out _ _ _ hm11
      clear hm11
      have hp11 := hp10.keep hc11 NoB.elim
      have hn11 := hn10.keep hc11 NoB.elim
      have hc011 := hc010.tr hc11
      clear c0 c1 c2 c3 c4
      have c0 : w11.cell? ⟨w5.heap.size, 0, none⟩ = some (.int .i64 (ip)) := hp11.cell 0
      have c1 : w11.cell? ⟨w5.heap.size, 1, none⟩ = some (.string np) := hp11.cell 1
      have c2 : w11.cell? ⟨w5.heap.size, 2, none⟩ = some (.int .i64 (rp)) := hp11.cell 2
      have c3 : w11.cell? ⟨w5.heap.size, 3, none⟩ = some (.int .i64 (kp)) := hp11.cell 3
      have c4 : w11.cell? ⟨w5.heap.size, 4, none⟩ = some (.slice sap sp.length capp) := hp11.cell 4
      have d0 : w11.cell? ⟨w8.heap.size, 0, none⟩ = some (.int .i64 (0)) := hn11.cell 0
      have d1 : w11.cell? ⟨w8.heap.size, 1, none⟩ = some (.string ⟨#[]⟩) := hn11.cell 1
      have d2 : w11.cell? ⟨w8.heap.size, 2, none⟩ = some (.int .i64 (0)) := hn11.cell 2
      have d3 : w11.cell? ⟨w8.heap.size, 3, none⟩ = some (.int .i64 (0)) := hn11.cell 3
      have d4 : w11.cell? ⟨w8.heap.size, 4, none⟩ = some (.slice none 0 0) := hn11.cell 4
      have lp11 := hp11.lt
      have ln11 := hn11.lt
      go_wp2_with fail
      refine (isNode_err (.iface VT Vv) (ne) w11 _ (.mk ip np rp kp sp) _ A (hA.sents.keep0 hc011) (HT.out.keep0 hc011) ⟨by omega, by omega⟩ (hrp.chg0 (hc6.tr (hc7.tr (hc8.tr (hc9.tr (hc10.tr hc11))))))).mono ?_
      rintro en w12 ⟨rfl, hc12⟩
      have hc012 := hc011.tr hc12
      go_wp2_with fail
      refine (coded_any (.iface VT Vv) (ne) (-1) (ne) w12 A (hA.sents.keep0 hc012) (HT.out.keep0 hc012) (by omega) (by omega)).mono ?_
      rintro en w13 ⟨rfl, hc13⟩
      simp only [decide_true, Bool.and_self]
      go_wp2_with fail
      go_ret
      exact ⟨rfl, hc012.tr hc13⟩
    | none =>
      cases isB with
      | false =>
        obtain ⟨VT, Vv, hV⟩ := hN.form
        have hL := flat_valid hv
        have hno : findF (.mk i nm r k sb) id = none := by
          rw [findF_full hL]
          cases hf : findP id (flatOf (.mk i nm r k sb)) with
          | none => rfl
          | some p => rw [hf] at his; cases his
        have hfr : findR (.mk i nm r k sb) id = .non := by unfold findR; rw [hv]; simp only; rw [hno]
        have hF : ∀ a b c, RetPJ E N (findR (.mk i nm r k sb) id) a b c → Chg NoB a c ∧ b = .returned (.tuple #[zeroNode, .iface VT Vv]) := fun a b c h => by
          rw [hfr] at h
          exact ⟨h.1, by rw [← hV]; exact h.2⟩
        have hU : ∀ a b c, RetUn E N (findR (.mk i nm r k sb) id) a b c → Chg NoB a c ∧ b = .returned (.tuple #[.slice none 0 0, .iface VT Vv]) := fun a b c h => by
          rw [hfr] at h
          exact ⟨h.1, by rw [← hV]; exact h.2⟩
        have hT : Told w A (.iface VT Vv) 6 (-1) := by rw [← hV]; exact hA.toldN
        clear hsome his hv hV hno hfr hL
        have HF := Lib.hid hF
        have HU := Lib.hid hU
        have HT := Lib.hid hT
        clear hF hU hT
        have hen : errNum none = 0 := rfl
        rw [hen]
        clear hen
        go_wp2_with fail
        generalize hw6 : World.alloc w5 _ = w6
        have hc6 : Chg NoB w5 w6 := by
          rw [← hw6]
          repeat (first | exact Chg.refl _ _ | apply Chg.alloc | apply Chg.drew)
        have hp6 : Blk w6 (w5.heap.size) (ndCells ip np rp kp (.slice sap sp.length capp)) 24 := by
          rw [← hw6]
          repeat (first | exact Blk.newAt (by first | rfl | (simp; done) | (simp; omega)) | apply Blk.alloc | apply Blk.drew)
        clear hw6
        have hb6 := hb5.keep hc6 NoB.elim
        have hc06 := hc05.tr hc6
        refine (ownNode_any _ (.mk i nm r k sb) w6 S _ (Nat.le_refl _) (hr.chg0 hc06) hok).mono ?_
        rintro en w7 ⟨cs7, rfl, hr7, hc7⟩
        have hb7 := hb6.keep hc7 NoB.elim
        have hp7 := hp6.keep hc7 NoB.elim
        have hc07 := hc06.tr hc7
        obtain ⟨sv7, rfl, hs7⟩ := reads_nd.1 hr7
        obtain ⟨sa7, cap7, rfl, _, _, _⟩ := reads_subs hs7
        go_wp2_with fail
        refine (find_any (.mk i nm r k sb) id w7 _ _ E N (hG.errs.keep0 hc07) (hN.keep0 hc07) hok hr7.lt (fun b hb => hb.2)).mono ?_
        intro en w8 hm8
        obtain ⟨hc8, rfl⟩ := HF.out _ _ _ hm8
        clear hm8
        have hb8 := hb7.keep hc8 NoB.elim
        have hp8 := hp7.keep hc8 NoB.elim
        have hc08 := hc07.tr hc8
        unfold zeroNode
        clear c0 c1 c2 c3 c4
        have c0 : w8.cell? ⟨w.heap.size, 0, none⟩ = some (.int .i64 (i)) := hb8.cell 0
        have c1 : w8.cell? ⟨w.heap.size, 1, none⟩ = some (.string nm) := hb8.cell 1
        have c2 : w8.cell? ⟨w.heap.size, 2, none⟩ = some (.int .i64 (r)) := hb8.cell 2
        have c3 : w8.cell? ⟨w.heap.size, 3, none⟩ = some (.int .i64 (k)) := hb8.cell 3
        have c4 : w8.cell? ⟨w.heap.size, 4, none⟩ = some (.slice sa sb.length cap) := hb8.cell 4
        have l8 := hb8.lt
        go_wp2_with fail
        generalize hw9 : World.alloc w8 _ = w9
        have hc9 : Chg NoB w8 w9 := by
          rw [← hw9]
          repeat (first | exact Chg.refl _ _ | apply Chg.alloc | apply Chg.drew)
        have hn9 : Blk w9 (w8.heap.size) (ndCells 0 ⟨#[]⟩ 0 0 (.slice none 0 0)) 24 := by
          rw [← hw9]
          repeat (first | exact Blk.newAt (by first | rfl | (simp; done) | (simp; omega)) | apply Blk.alloc | apply Blk.drew)
        clear hw9
        have hp9 := hp8.keep hc9 NoB.elim
        have hc09 := hc08.tr hc9
        refine (ownNode_any _ (.mk i nm r k sb) w9 S _ (Nat.le_refl _) (hr.chg0 hc09) hok).mono ?_
        rintro en w10 ⟨cs10, rfl, hr10, hc10⟩
        have hp10 := hp9.keep hc10 NoB.elim
        have hn10 := hn9.keep hc10 NoB.elim
        have hc010 := hc09.tr hc10
        obtain ⟨sv10, rfl, hs10⟩ := reads_nd.1 hr10
        obtain ⟨sa10, cap10, rfl, _, _, _⟩ := reads_subs hs10
        go_wp2_with fail
        refine (under_any (.mk i nm r k sb) id w10 _ _ E N (hG.errs.keep0 hc010) (hN.keep0 hc010) hok hr10.lt (fun b hb => hb.2) (fun n h => by have h9 := found_small hok h; exact ⟨h9.1, by omega, by omega⟩)).mono ?_
        intro en w11 hm11
        obtain ⟨hc11, rfl⟩ := HU.out _ _ _ hm11
        clear hm11
        have hp11 := hp10.keep hc11 NoB.elim
        have hn11 := hn10.keep hc11 NoB.elim
        have hc011 := hc010.tr hc11
        clear c0 c1 c2 c3 c4
        have c0 : w11.cell? ⟨w5.heap.size, 0, none⟩ = some (.int .i64 (ip)) := hp11.cell 0
        have c1 : w11.cell? ⟨w5.heap.size, 1, none⟩ = some (.string np) := hp11.cell 1
        have c2 : w11.cell? ⟨w5.heap.size, 2, none⟩ = some (.int .i64 (rp)) := hp11.cell 2
        have c3 : w11.cell? ⟨w5.heap.size, 3, none⟩ = some (.int .i64 (kp)) := hp11.cell 3
        have c4 : w11.cell? ⟨w5.heap.size, 4, none⟩ = some (.slice sap sp.length capp) := hp11.cell 4
        have d0 : w11.cell? ⟨w8.heap.size, 0, none⟩ = some (.int .i64 (0)) := hn11.cell 0
        have d1 : w11.cell? ⟨w8.heap.size, 1, none⟩ = some (.string ⟨#[]⟩) := hn11.cell 1
        have d2 : w11.cell? ⟨w8.heap.size, 2, none⟩ = some (.int .i64 (0)) := hn11.cell 2
        have d3 : w11.cell? ⟨w8.heap.size, 3, none⟩ = some (.int .i64 (0)) := hn11.cell 3
        have d4 : w11.cell? ⟨w8.heap.size, 4, none⟩ = some (.slice none 0 0) := hn11.cell 4
        have lp11 := hp11.lt
        have ln11 := hn11.lt
        go_wp2_with fail
        refine (isNode_err (.iface VT Vv) (6) w11 _ (.mk ip np rp kp sp) _ A (hA.sents.keep0 hc011) (HT.out.keep0 hc011) ⟨by omega, by omega⟩ (hrp.chg0 (hc6.tr (hc7.tr (hc8.tr (hc9.tr (hc10.tr hc11))))))).mono ?_
        rintro en w12 ⟨rfl, hc12⟩
        have hc012 := hc011.tr hc12
        go_wp2_with fail
        refine (coded_any (.iface VT Vv) (6) (-1) (6) w12 A (hA.sents.keep0 hc012) (HT.out.keep0 hc012) (by omega) (by omega)).mono ?_
        rintro en w13 ⟨rfl, hc13⟩
        simp only [decide_true, Bool.and_self]
        go_wp2_with fail
        go_ret
        exact ⟨rfl, hc012.tr hc13⟩
      | true =>
        have hL := flat_valid hv
        have hff : findF (.mk i nm r k sb) id = some (.mk ip np rp kp sp) := by
          rw [findF_full hL]
          exact hsome rfl
        have hfr : findR (.mk i nm r k sb) id = .ok (.mk ip np rp kp sp) := by unfold findR; rw [hv]; simp only; rw [hff]
        have hsmall := found_small hok hfr
        have hokp := hsmall.1
        have hW : underL (flatOf (.mk ip np rp kp sp)) = underW (.mk ip np rp kp sp) := (underW_flat (by omega) (by omega)).symm
        have hF : ∀ a b c, RetPJ E N (findR (.mk i nm r k sb) id) a b c → Chg NoB a c ∧ ∃ cs, b = .returned (.tuple #[.agg cs.toArray, .nilIface]) ∧ Reads c (fun x => a.heap.size ≤ x) (Nd.dt (.mk ip np rp kp sp)) cs := fun a b c h => by
          rw [hfr] at h
          exact h
        generalize hu : underW (.mk ip np rp kp sp) = u at hW
        have hU : ∀ a b c, RetUn E N (findR (.mk i nm r k sb) id) a b c → Chg NoB a c ∧ ∃ aa cc, b = .returned (.tuple #[.slice aa u.length cc, .nilIface]) ∧ Reads c (fun x => a.heap.size ≤ x) (.list 1 (u.map intDt)) [.slice aa u.length cc] := fun a b c h => by
          rw [hfr] at h
          rw [← hu]
          exact h
        clear hsome his hv hff hfr hL hsmall hu
        have HF := Lib.hid hF
        have HU := Lib.hid hU
        have HW := Lib.hid hW
        clear hF hU hW
        have hen : errNum none = 0 := rfl
        rw [hen]
        clear hen
        go_wp2_with fail
        generalize hw6 : World.alloc w5 _ = w6
        have hc6 : Chg NoB w5 w6 := by
          rw [← hw6]
          repeat (first | exact Chg.refl _ _ | apply Chg.alloc | apply Chg.drew)
        have hp6 : Blk w6 (w5.heap.size) (ndCells ip np rp kp (.slice sap sp.length capp)) 24 := by
          rw [← hw6]
          repeat (first | exact Blk.newAt (by first | rfl | (simp; done) | (simp; omega)) | apply Blk.alloc | apply Blk.drew)
        clear hw6
        have hb6 := hb5.keep hc6 NoB.elim
        have hc06 := hc05.tr hc6
        refine (ownNode_any _ (.mk i nm r k sb) w6 S _ (Nat.le_refl _) (hr.chg0 hc06) hok).mono ?_
        rintro en w7 ⟨cs7, rfl, hr7, hc7⟩
        have hb7 := hb6.keep hc7 NoB.elim
        have hp7 := hp6.keep hc7 NoB.elim
        have hc07 := hc06.tr hc7
        obtain ⟨sv7, rfl, hs7⟩ := reads_nd.1 hr7
        obtain ⟨sa7, cap7, rfl, _, _, _⟩ := reads_subs hs7
        go_wp2_with fail
        refine (find_any (.mk i nm r k sb) id w7 _ _ E N (hG.errs.keep0 hc07) (hN.keep0 hc07) hok hr7.lt (fun b hb => hb.2)).mono ?_
        intro en w8 hm8
        obtain ⟨hc8, cs8, rfl, hr8⟩ := HF.out _ _ _ hm8
        clear hm8
        obtain ⟨sv8, rfl, hs8⟩ := reads_nd.1 hr8
        obtain ⟨sa8, cap8, rfl, _, _, _⟩ := reads_subs hs8
        have hb8 := hb7.keep hc8 NoB.elim
        have hp8 := hp7.keep hc8 NoB.elim
        have hc08 := hc07.tr hc8
        clear c0 c1 c2 c3 c4
        have c0 : w8.cell? ⟨w.heap.size, 0, none⟩ = some (.int .i64 (i)) := hb8.cell 0
        have c1 : w8.cell? ⟨w.heap.size, 1, none⟩ = some (.string nm) := hb8.cell 1
        have c2 : w8.cell? ⟨w.heap.size, 2, none⟩ = some (.int .i64 (r)) := hb8.cell 2
        have c3 : w8.cell? ⟨w.heap.size, 3, none⟩ = some (.int .i64 (k)) := hb8.cell 3
        have c4 : w8.cell? ⟨w.heap.size, 4, none⟩ = some (.slice sa sb.length cap) := hb8.cell 4
        have l8 := hb8.lt
        go_wp2_with fail
        generalize hw9 : World.alloc w8 _ = w9
        have hc9 : Chg NoB w8 w9 := by
          rw [← hw9]
          repeat (first | exact Chg.refl _ _ | apply Chg.alloc | apply Chg.drew)
        have hn9 : Blk w9 (w8.heap.size) (ndCells ip np rp kp (.slice sa8 sp.length cap8)) 24 := by
          rw [← hw9]
          repeat (first | exact Blk.newAt (by first | rfl | (simp; done) | (simp; omega)) | apply Blk.alloc | apply Blk.drew)
        clear hw9
        have hp9 := hp8.keep hc9 NoB.elim
        have hc09 := hc08.tr hc9
        refine (ownNode_any _ (.mk i nm r k sb) w9 S _ (Nat.le_refl _) (hr.chg0 hc09) hok).mono ?_
        rintro en w10 ⟨cs10, rfl, hr10, hc10⟩
        have hp10 := hp9.keep hc10 NoB.elim
        have hn10 := hn9.keep hc10 NoB.elim
        have hc010 := hc09.tr hc10
        obtain ⟨sv10, rfl, hs10⟩ := reads_nd.1 hr10
        obtain ⟨sa10, cap10, rfl, _, _, _⟩ := reads_subs hs10
        go_wp2_with fail
        refine (under_any (.mk i nm r k sb) id w10 _ _ E N (hG.errs.keep0 hc010) (hN.keep0 hc010) hok hr10.lt (fun b hb => hb.2) (fun n h => by have h9 := found_small hok h; exact ⟨h9.1, by omega, by omega⟩)).mono ?_
        intro en w11 hm11
        obtain ⟨hc11, a11, c11, rfl, hl11⟩ := HU.out _ _ _ hm11
        clear hm11
        have hp11 := hp10.keep hc11 NoB.elim
        have hn11 := hn10.keep hc11 NoB.elim
        have hc011 := hc010.tr hc11
        clear c0 c1 c2 c3 c4
        have c0 : w11.cell? ⟨w5.heap.size, 0, none⟩ = some (.int .i64 (ip)) := hp11.cell 0
        have c1 : w11.cell? ⟨w5.heap.size, 1, none⟩ = some (.string np) := hp11.cell 1
        have c2 : w11.cell? ⟨w5.heap.size, 2, none⟩ = some (.int .i64 (rp)) := hp11.cell 2
        have c3 : w11.cell? ⟨w5.heap.size, 3, none⟩ = some (.int .i64 (kp)) := hp11.cell 3
        have c4 : w11.cell? ⟨w5.heap.size, 4, none⟩ = some (.slice sap sp.length capp) := hp11.cell 4
        have d0 : w11.cell? ⟨w8.heap.size, 0, none⟩ = some (.int .i64 (ip)) := hn11.cell 0
        have d1 : w11.cell? ⟨w8.heap.size, 1, none⟩ = some (.string np) := hn11.cell 1
        have d2 : w11.cell? ⟨w8.heap.size, 2, none⟩ = some (.int .i64 (rp)) := hn11.cell 2
        have d3 : w11.cell? ⟨w8.heap.size, 3, none⟩ = some (.int .i64 (kp)) := hn11.cell 3
        have d4 : w11.cell? ⟨w8.heap.size, 4, none⟩ = some (.slice sa8 sp.length cap8) := hn11.cell 4
        have lp11 := hp11.lt
        have ln11 := hn11.lt
        have hrp11 := hrp.chg0 (hc6.tr (hc7.tr (hc8.tr (hc9.tr (hc10.tr hc11)))))
        go_wp2_with fail
        refine (isNode_ok w11 _ _ (.mk ip np rp kp sp) _ _ (hr8.chg0 (hc9.tr (hc10.tr hc11))) hrp11 hokp).mono ?_
        rintro en w12 ⟨rfl, hc12⟩
        have hp12 := hp11.keep hc12 NoB.elim
        have hc012 := hc011.tr hc12
        clear c0 c1 c2 c3 c4 d0 d1 d2 d3 d4
        have c0 : w12.cell? ⟨w5.heap.size, 0, none⟩ = some (.int .i64 (ip)) := hp12.cell 0
        have c1 : w12.cell? ⟨w5.heap.size, 1, none⟩ = some (.string np) := hp12.cell 1
        have c2 : w12.cell? ⟨w5.heap.size, 2, none⟩ = some (.int .i64 (rp)) := hp12.cell 2
        have c3 : w12.cell? ⟨w5.heap.size, 3, none⟩ = some (.int .i64 (kp)) := hp12.cell 3
        have c4 : w12.cell? ⟨w5.heap.size, 4, none⟩ = some (.slice sap sp.length capp) := hp12.cell 4
        have lp12 := hp12.lt
        go_wp2_with fail
        refine (underOf_any (.mk ip np rp kp sp) w12 _ _ (hrp11.chg0 hc12) hokp).mono ?_
        rintro en w13 ⟨a13, c13, rfl, hl13, hc13⟩
        rw [List.length_map, HW.out] at hl13
        rw [List.length_map, HW.out]
        go_wp2_with fail
        refine (sameInts_yes u _ _ w13 _ _ (hl11.chg0 (hc12.tr hc13)) hl13).mono ?_
        rintro en w14 ⟨rfl, hc14⟩
        go_wp2_with fail
        go_ret
        exact ⟨rfl, (hc012.tr hc13).tr hc14⟩
end Go.Proofs.YtfbbfhhhfbibjaaGreatDoor
