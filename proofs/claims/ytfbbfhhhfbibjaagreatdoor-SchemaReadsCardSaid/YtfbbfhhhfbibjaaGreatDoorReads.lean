/-
  SchemaReads: the walk, by the contracts.
-/
import Derived.Test.YtfbbfhhhfbibjaaGreatDoorSchOf
import Derived.Test.YtfbbfhhhfbibjaaGreatDoorPackH
import Derived.Test.YtfbbfhhhfbibjaaGreatDoorPackG
import Derived.Test.YtfbbfhhhfbibjaaGreatDoorPackI
set_option linter.unusedVariables false
set_option linter.unusedSimpArgs false
namespace Go.Proofs.YtfbbfhhhfbibjaaGreatDoor
open Go.RowKit

theorem parse_bad_le : ∀ (m : Nat) (deep : Int) (rest : List UInt8) (e : Er) (q : List UInt8), rest.length ≤ m → parseL deep rest = .bad e q → q.length ≤ rest.length := by
  intro m
  induction m using Nat.strongRecOn with
  | _ m ih =>
    intro deep rest e q hm h
    have n1 := nxt_le' rest
    have n2 := nxt_le' (nxt rest)
    have n3 := nxt_le' (nxt (nxt rest))
    have n4 := nxt_le' (nxt (nxt (nxt rest)))
    cases hh : headN deep rest with
    | stop => rw [parse_stop hh] at h; cases h
    | bad e1 q1 =>
      rw [parse_bad hh] at h
      cases h
      unfold headN at hh
      split at hh
      · cases hh
      split at hh
      · cases hh; exact Nat.le_refl _
      split at hh
      · cases hh; exact n1
      split at hh
      · cases hh; omega
      split at hh
      · cases hh; omega
      split at hh
      · split at hh
        · cases hh; omega
        · split at hh
          · cases hh; omega
          · cases hh
      · split at hh
        · cases hh; omega
        · cases hh
    | leaf n r =>
      rw [parse_leaf hh] at h
      have hlt := head_leaf hh
      cases hp : parseL deep r with
      | ok l' r' => rw [hp] at h; simp [PR.cons] at h
      | bad e1 q1 =>
        rw [hp] at h
        simp only [PR.cons, PR.bad.injEq] at h
        obtain ⟨rfl, rfl⟩ := h
        have := ih _ (by omega) deep _ _ _ (Nat.le_refl _) hp
        omega
    | group i nm p r =>
      have hlt := (head_group hh).1
      cases hp : parseL (deep + 1) r with
      | bad e2 q2 =>
        rw [parse_group_bad hh hp] at h
        cases h
        have := ih _ (by omega) (deep + 1) _ _ _ (Nat.le_refl _) hp
        omega
      | ok sub q2 =>
        have h6 := parse_le _ _ _ _ _ (Nat.le_refl _) hp
        by_cases h3 : tok q2 = [125]
        · have h4 := parse_group hh hp h3
          rw [h4.1] at h
          cases hp2 : parseL deep (nxt q2) with
          | ok l' r' => rw [hp2] at h; simp [PR.cons] at h
          | bad e1 q1 =>
            rw [hp2] at h
            simp only [PR.cons, PR.bad.injEq] at h
            obtain ⟨rfl, rfl⟩ := h
            have := h4.2
            have := ih _ (by omega) deep _ _ _ (Nat.le_refl _) hp2
            omega
        · rw [parse_group_open hh hp h3] at h
          cases h
          omega
theorem skip_len (s : ByteArray) : (skipW s.data.toList).length ≤ s.size := by
  have h1 := (List.dropWhile_sublist (([32, 10] : List UInt8).contains ·) (l := s.data.toList)).length_le
  rw [length_data] at h1
  exact h1
theorem readF_bad_le {s : ByteArray} {e : Er} {q : List UInt8} (h : readF s = .bad e q) : q.length ≤ s.size := by
  have hs := skip_len s
  unfold readF at h
  split at h
  · cases h
  · split at h
    · rename_i e1 q1 hp
      cases h
      have := parse_bad_le _ _ _ _ _ (Nat.le_refl _) hp
      omega
    · rename_i l q1 hp
      split at h
      · split at h <;> cases h
      · cases h
        have := parse_le _ _ _ _ _ (Nat.le_refl _) hp
        omega
theorem readF_ok {s : ByteArray} {n : Nd} (h : readF s = .ok n) : n.ok := by
  have hs := skip_len s
  unfold readF at h
  split at h
  · cases h
  · split at h
    · cases h
    · rename_i h8 _ l q1 hp
      split at h
      · split at h
        · cases h
          obtain ⟨hoks, hll⟩ := parse_ok _ _ _ _ _ (Nat.le_refl _) (by omega) hp
          exact ⟨⟨by decide, by decide⟩, by decide, ⟨by decide, by decide⟩, ⟨by decide, by decide⟩, by unfold reach; omega, hoks⟩
        · cases h
      · cases h
theorem errNum_i (e : Er) : errNum (some e) = (e.i : Int) + 1 := by cases e <;> rfl
theorem er_lt (e : Er) : e.i < 8 := by cases e <;> decide

set_option maxHeartbeats 400000 in
theorem faulted_yes (v : Value) (n a : Int) (w : World) (A : Nat → Addr) (hS : Sents w A) (ht : Told w A v n a) (hn : 0 < n ∧ n ≤ 100) :
    Calls Tryz.prog 18 #[v, faultV n a] w (RetV (.bool true) w) := by
  unfold faultV
  go_enter Tryz.func18, Tryz.ntmps18
  go_wp2_with fail
  generalize hw1 : w.alloc _ = w1
  have hc1 : Chg NoB w w1 := by
    rw [← hw1]
    repeat (first | exact Chg.refl _ _ | apply Chg.alloc | apply Chg.drew)
  have hb1 : Blk w1 (w.heap.size) ([.int .i64 n, .int .i64 a]) 39 := by
    rw [← hw1]
    repeat (first | exact Blk.newAt (by first | rfl | (simp; done) | (simp; omega)) | apply Blk.alloc | apply Blk.drew)
  clear hw1
  have ht1 : Told w1 A v n a := ht.keep0 hc1
  refine (code_any v n a w1 A (hS.keep0 hc1) ht1).mono ?_
  rintro en w2 ⟨rfl, hc2⟩
  have hb2 := hb1.keep hc2 NoB.elim
  have c0 : w2.cell? ⟨w.heap.size, 0, none⟩ = some (.int .i64 n) := hb2.cell 0
  have c1 : w2.cell? ⟨w.heap.size, 1, none⟩ = some (.int .i64 a) := hb2.cell 1
  have hl := hb2.lt
  have hn0 : (n == 0) = false := by simp; omega
  go_wp2_with fail
  go_ret
  exact ⟨by first | rfl | simp, hc1.tr hc2⟩

set_option maxHeartbeats 4000000 in
set_option maxRecDepth 100000 in
theorem reads_any (s : ByteArray) (w : World) (A : Nat → Addr) (E : Er → Value) (N : Value) (hG : Glo w.heap.size E w) (hA : Named w A E N) (hbig : s.size ≤ 9223372036854775807) :
    Calls Tryz.prog 4 #[.string s] w (RetV (.bool true) w) := by
  go_enter Tryz.func4, Tryz.ntmps4
  go_wp2_with fail
  refine (leaf_any w E hG).mono ?_
  rintro en w1 ⟨rfl, hc1⟩
  have hG1 := (hG.keep0 hc1).up hc1.size
  by_cases hb : 3000 < s.size ∧ s.size ≤ 8000
  · have h1 : (3000 : Int) < (s.size : Int) := by omega
    have h2 : (s.size : Int) ≤ 8000 := by omega
    go_wp2_with fail
    go_ret
    exact ⟨rfl, hc1⟩
  · go_upto_region 2 with fail
    go_cut [20] (fun v20 wx => v20 = .bool false ∧ wx = w1)
    case first =>
      by_cases h3 : 3000 < s.size
      · have h1 : (3000 : Int) < (s.size : Int) := by omega
        have h2 : ¬ (s.size : Int) ≤ 8000 := by omega
        go_wp2_with fail
        go_meet
        exact ⟨rfl, rfl⟩
      · have h1 : ¬ (3000 : Int) < (s.size : Int) := by omega
        go_wp2_with fail
        go_meet
        exact ⟨rfl, rfl⟩
    case rest =>
      obtain ⟨rfl, rfl⟩ := hcut
      clear hb
      go_wp2_with fail
      refine (read_any s wc E hG1 hbig).mono ?_
      rintro en w2 ⟨hc2, hm2⟩
      cases hR : readF s with
      | ok n =>
        have hnok := readF_ok hR
        rw [hR] at hm2
        obtain ⟨cs2, rfl, hrd2⟩ := hm2
        obtain ⟨i, nm, r, k, sb⟩ := n
        have hrd2' := hrd2
        obtain ⟨sv1, rfl, hs1⟩ := reads_nd.1 hrd2'
        obtain ⟨sa1, cap1, rfl, _, _, _⟩ := reads_subs hs1
        have HR := Lib.hid hR
        clear hR
        go_wp2_with fail
        generalize hw3 : w2.alloc _ = w3
        have hc3 : Chg NoB w2 w3 := by
          rw [← hw3]
          repeat (first | exact Chg.refl _ _ | apply Chg.alloc | apply Chg.drew)
        have hb3 : Blk w3 (w2.heap.size) (ndCells i nm r k (.slice sa1 sb.length cap1)) 24 := by
          rw [← hw3]
          repeat (first | exact Blk.newAt (by first | rfl | (simp; done) | (simp; omega)) | apply Blk.alloc | apply Blk.drew)
        clear hw3
        refine (schemaOf_any s w3 hbig).mono ?_
        rintro en w4 ⟨hc4, hm4⟩
        rw [HR.out] at hm4
        obtain ⟨cs4, rfl, hrd4⟩ := hm4
        have hrd4' := hrd4
        obtain ⟨sv4, rfl, hs4⟩ := reads_nd.1 hrd4'
        obtain ⟨sa4, cap4, rfl, _, _, _⟩ := reads_subs hs4
        unfold faultV
        have hb4 := hb3.keep hc4 NoB.elim
        have q0 : w4.cell? ⟨w2.heap.size, 0, none⟩ = some (.int .i64 (i)) := hb4.cell 0
        have q1 : w4.cell? ⟨w2.heap.size, 1, none⟩ = some (.string nm) := hb4.cell 1
        have q2 : w4.cell? ⟨w2.heap.size, 2, none⟩ = some (.int .i64 (r)) := hb4.cell 2
        have q3 : w4.cell? ⟨w2.heap.size, 3, none⟩ = some (.int .i64 (k)) := hb4.cell 3
        have q4 : w4.cell? ⟨w2.heap.size, 4, none⟩ = some ((.slice sa1 sb.length cap1)) := hb4.cell 4
        have hl4 := hb4.lt
        go_wp2_with fail
        generalize hw5 : (World.alloc w4 _).alloc _ = w5
        have hc5 : Chg NoB w4 w5 := by
          rw [← hw5]
          repeat (first | exact Chg.refl _ _ | apply Chg.alloc | apply Chg.drew)
        have hn5 : Blk w5 (w4.heap.size) (ndCells i nm r k (.slice sa4 sb.length cap4)) 24 := by
          rw [← hw5]
          repeat (first | exact Blk.newAt (by first | rfl | (simp; done) | (simp; omega)) | apply Blk.alloc | apply Blk.drew)
        have hf5 : Blk w5 (w4.heap.size + 1) ([.int .i64 0, .int .i64 (-1)]) 39 := by
          rw [← hw5]
          repeat (first | exact Blk.newAt (by first | rfl | (simp; done) | (simp; omega)) | apply Blk.alloc | apply Blk.drew)
        clear hw5
        have hb5 := (hb3.keep hc4 NoB.elim).keep hc5 NoB.elim
        have hc05 : Chg NoB w w5 := (((hc1.tr hc2).tr hc3).tr hc4).tr hc5
        have hc25 : Chg NoB w2 w5 := (hc3.tr hc4).tr hc5
        clear q0 q1 q2 q3 q4
        have x0 : w5.cell? ⟨w2.heap.size, 0, none⟩ = some (.int .i64 (i)) := hb5.cell 0
        have x1 : w5.cell? ⟨w2.heap.size, 1, none⟩ = some (.string nm) := hb5.cell 1
        have x2 : w5.cell? ⟨w2.heap.size, 2, none⟩ = some (.int .i64 (r)) := hb5.cell 2
        have x3 : w5.cell? ⟨w2.heap.size, 3, none⟩ = some (.int .i64 (k)) := hb5.cell 3
        have x4 : w5.cell? ⟨w2.heap.size, 4, none⟩ = some ((.slice sa1 sb.length cap1)) := hb5.cell 4
        have y0 : w5.cell? ⟨w4.heap.size, 0, none⟩ = some (.int .i64 (i)) := hn5.cell 0
        have y1 : w5.cell? ⟨w4.heap.size, 1, none⟩ = some (.string nm) := hn5.cell 1
        have y2 : w5.cell? ⟨w4.heap.size, 2, none⟩ = some (.int .i64 (r)) := hn5.cell 2
        have y3 : w5.cell? ⟨w4.heap.size, 3, none⟩ = some (.int .i64 (k)) := hn5.cell 3
        have y4 : w5.cell? ⟨w4.heap.size, 4, none⟩ = some ((.slice sa4 sb.length cap4)) := hn5.cell 4
        have m0 : w5.cell? ⟨w4.heap.size + 1, 0, none⟩ = some (.int .i64 0) := hf5.cell 0
        have m1 : w5.cell? ⟨w4.heap.size + 1, 1, none⟩ = some (.int .i64 (-1)) := hf5.cell 1
        have hl1 := hb5.lt
        have hl2 := hn5.lt
        have hl3 := hf5.lt
        refine (sameNode_yes _ (.mk i nm r k sb) w5 _ _ _ _ (Nat.le_refl _) (hrd2.chg0 hc25) (hrd4.chg0 hc5) hnok).mono ?_
        rintro en w6 ⟨rfl, hc6⟩
        go_wp2_with fail
        go_ret
        exact ⟨rfl, hc05.tr hc6⟩
      | er e =>
        rw [hR] at hm2
        obtain rfl := hm2
        obtain ⟨VT, Vv, hV⟩ := hG.errs.form e
        have HR := Lib.hid hR
        obtain ⟨ne, hne⟩ : ∃ x, x = errNum (some e) := ⟨_, rfl⟩
        have hpos : 0 < ne ∧ ne ≤ 100 := by rw [hne]; cases e <;> exact ⟨by decide, by decide⟩
        obtain ⟨hpos1, hpos2⟩ := hpos
        have hTd : Told w A (.iface VT Vv) ne (-1) := by rw [← hV, hne]; exact hA.told e
        have HTd := Lib.hid hTd
        have Hne := Lib.hid hne
        rw [hV]
        unfold zeroNode
        clear hR hV hne hTd
        go_wp2_with fail
        generalize hw3 : w2.alloc _ = w3
        have hc3 : Chg NoB w2 w3 := by
          rw [← hw3]
          repeat (first | exact Chg.refl _ _ | apply Chg.alloc | apply Chg.drew)
        have hb3 : Blk w3 (w2.heap.size) (ndCells 0 ⟨#[]⟩ 0 0 (.slice none 0 0)) 24 := by
          rw [← hw3]
          repeat (first | exact Blk.newAt (by first | rfl | (simp; done) | (simp; omega)) | apply Blk.alloc | apply Blk.drew)
        clear hw3
        refine (schemaOf_any s w3 hbig).mono ?_
        rintro en w4 ⟨hc4, hm4⟩
        rw [HR.out] at hm4
        obtain rfl := hm4
        rw [← Hne.out]
        unfold faultV zeroNode
        have hb4 := hb3.keep hc4 NoB.elim
        have q0 : w4.cell? ⟨w2.heap.size, 0, none⟩ = some (.int .i64 (0)) := hb4.cell 0
        have q1 : w4.cell? ⟨w2.heap.size, 1, none⟩ = some (.string ⟨#[]⟩) := hb4.cell 1
        have q2 : w4.cell? ⟨w2.heap.size, 2, none⟩ = some (.int .i64 (0)) := hb4.cell 2
        have q3 : w4.cell? ⟨w2.heap.size, 3, none⟩ = some (.int .i64 (0)) := hb4.cell 3
        have q4 : w4.cell? ⟨w2.heap.size, 4, none⟩ = some ((.slice none 0 0)) := hb4.cell 4
        have hl4 := hb4.lt
        go_wp2_with fail
        generalize hw5 : (World.alloc w4 _).alloc _ = w5
        have hc5 : Chg NoB w4 w5 := by
          rw [← hw5]
          repeat (first | exact Chg.refl _ _ | apply Chg.alloc | apply Chg.drew)
        have hn5 : Blk w5 (w4.heap.size) (ndCells 0 ⟨#[]⟩ 0 0 (.slice none 0 0)) 24 := by
          rw [← hw5]
          repeat (first | exact Blk.newAt (by first | rfl | (simp; done) | (simp; omega)) | apply Blk.alloc | apply Blk.drew)
        have hf5 : Blk w5 (w4.heap.size + 1) ([.int .i64 ne, .int .i64 (-1)]) 39 := by
          rw [← hw5]
          repeat (first | exact Blk.newAt (by first | rfl | (simp; done) | (simp; omega)) | apply Blk.alloc | apply Blk.drew)
        clear hw5
        have hb5 := (hb3.keep hc4 NoB.elim).keep hc5 NoB.elim
        have hc05 : Chg NoB w w5 := (((hc1.tr hc2).tr hc3).tr hc4).tr hc5
        have hc25 : Chg NoB w2 w5 := (hc3.tr hc4).tr hc5
        clear q0 q1 q2 q3 q4
        have x0 : w5.cell? ⟨w2.heap.size, 0, none⟩ = some (.int .i64 (0)) := hb5.cell 0
        have x1 : w5.cell? ⟨w2.heap.size, 1, none⟩ = some (.string ⟨#[]⟩) := hb5.cell 1
        have x2 : w5.cell? ⟨w2.heap.size, 2, none⟩ = some (.int .i64 (0)) := hb5.cell 2
        have x3 : w5.cell? ⟨w2.heap.size, 3, none⟩ = some (.int .i64 (0)) := hb5.cell 3
        have x4 : w5.cell? ⟨w2.heap.size, 4, none⟩ = some ((.slice none 0 0)) := hb5.cell 4
        have y0 : w5.cell? ⟨w4.heap.size, 0, none⟩ = some (.int .i64 (0)) := hn5.cell 0
        have y1 : w5.cell? ⟨w4.heap.size, 1, none⟩ = some (.string ⟨#[]⟩) := hn5.cell 1
        have y2 : w5.cell? ⟨w4.heap.size, 2, none⟩ = some (.int .i64 (0)) := hn5.cell 2
        have y3 : w5.cell? ⟨w4.heap.size, 3, none⟩ = some (.int .i64 (0)) := hn5.cell 3
        have y4 : w5.cell? ⟨w4.heap.size, 4, none⟩ = some ((.slice none 0 0)) := hn5.cell 4
        have m0 : w5.cell? ⟨w4.heap.size + 1, 0, none⟩ = some (.int .i64 ne) := hf5.cell 0
        have m1 : w5.cell? ⟨w4.heap.size + 1, 1, none⟩ = some (.int .i64 (-1)) := hf5.cell 1
        have hl1 := hb5.lt
        have hl2 := hn5.lt
        have hl3 := hf5.lt
        have hT : Told w5 A (.iface VT Vv) ne (-1) := HTd.out.keep0 hc05
        have HT := Lib.hid hT
        clear hT
        go_wp2_with fail
        refine (faulted_yes (.iface VT Vv) ne (-1) w5 A (hA.sents.keep0 hc05) HT.out (by omega)).mono ?_
        rintro en w6 ⟨rfl, hc6⟩
        have hb6 := hb5.keep hc6 NoB.elim
        clear x0 x1 x2 x3 x4 y0 y1 y2 y3 y4
        have x0 : w6.cell? ⟨w2.heap.size, 0, none⟩ = some (.int .i64 (0)) := hb6.cell 0
        have x1 : w6.cell? ⟨w2.heap.size, 1, none⟩ = some (.string ⟨#[]⟩) := hb6.cell 1
        have x2 : w6.cell? ⟨w2.heap.size, 2, none⟩ = some (.int .i64 (0)) := hb6.cell 2
        have x3 : w6.cell? ⟨w2.heap.size, 3, none⟩ = some (.int .i64 (0)) := hb6.cell 3
        have x4 : w6.cell? ⟨w2.heap.size, 4, none⟩ = some (.slice none 0 0) := hb6.cell 4
        have hl6 := hb6.lt
        go_wp2_with fail
        refine (sameNode_yes _ zeroNd w6 (fun _ => False) (fun _ => False) _ _ (Nat.le_refl _) (zero_reads _ _) (zero_reads _ _) zeroNd_ok).mono ?_
        rintro en w7 ⟨rfl, hc7⟩
        go_wp2_with fail
        go_ret
        exact ⟨rfl, (hc05.tr hc6).tr hc7⟩
      | bad e q =>
        have hql := readF_bad_le hR
        rw [hR] at hm2
        obtain ⟨v, rfl, p, rfl, hp2⟩ := hm2
        have HR := Lib.hid hR
        obtain ⟨ne, hne⟩ : ∃ x, x = errNum (some e) := ⟨_, rfl⟩
        have hpos : 0 < ne ∧ ne ≤ 100 := by rw [hne]; cases e <;> exact ⟨by decide, by decide⟩
        obtain ⟨hpos1, hpos2⟩ := hpos
        obtain ⟨z, hz⟩ : ∃ x, x = (s.size : Int) - (q.length : Int) := ⟨_, rfl⟩
        have hz2 : ((s.size - q.length : Nat) : Int) = z := by omega
        rw [hz2, hA.er e] at hp2
        have hTd : Told w2 A (.iface 112 (.pointer (some ⟨p, 0, none⟩))) ne z := by
          rw [hne, errNum_i]
          exact .fault p e.i z (er_lt e) (hp2.cell 0) (hp2.cell 1) (by omega)
        have HTd := Lib.hid hTd
        have Hne := Lib.hid hne
        have Hz := Lib.hid hz
        unfold zeroNode
        clear hR hne hTd hz hz2 hp2 hql
        go_wp2_with fail
        generalize hw3 : w2.alloc _ = w3
        have hc3 : Chg NoB w2 w3 := by
          rw [← hw3]
          repeat (first | exact Chg.refl _ _ | apply Chg.alloc | apply Chg.drew)
        have hb3 : Blk w3 (w2.heap.size) (ndCells 0 ⟨#[]⟩ 0 0 (.slice none 0 0)) 24 := by
          rw [← hw3]
          repeat (first | exact Blk.newAt (by first | rfl | (simp; done) | (simp; omega)) | apply Blk.alloc | apply Blk.drew)
        clear hw3
        refine (schemaOf_any s w3 hbig).mono ?_
        rintro en w4 ⟨hc4, hm4⟩
        rw [HR.out] at hm4
        obtain rfl := hm4
        rw [← Hne.out, ← Hz.out]
        unfold faultV zeroNode
        have hb4 := hb3.keep hc4 NoB.elim
        have q0 : w4.cell? ⟨w2.heap.size, 0, none⟩ = some (.int .i64 (0)) := hb4.cell 0
        have q1 : w4.cell? ⟨w2.heap.size, 1, none⟩ = some (.string ⟨#[]⟩) := hb4.cell 1
        have q2 : w4.cell? ⟨w2.heap.size, 2, none⟩ = some (.int .i64 (0)) := hb4.cell 2
        have q3 : w4.cell? ⟨w2.heap.size, 3, none⟩ = some (.int .i64 (0)) := hb4.cell 3
        have q4 : w4.cell? ⟨w2.heap.size, 4, none⟩ = some ((.slice none 0 0)) := hb4.cell 4
        have hl4 := hb4.lt
        go_wp2_with fail
        generalize hw5 : (World.alloc w4 _).alloc _ = w5
        have hc5 : Chg NoB w4 w5 := by
          rw [← hw5]
          repeat (first | exact Chg.refl _ _ | apply Chg.alloc | apply Chg.drew)
        have hn5 : Blk w5 (w4.heap.size) (ndCells 0 ⟨#[]⟩ 0 0 (.slice none 0 0)) 24 := by
          rw [← hw5]
          repeat (first | exact Blk.newAt (by first | rfl | (simp; done) | (simp; omega)) | apply Blk.alloc | apply Blk.drew)
        have hf5 : Blk w5 (w4.heap.size + 1) ([.int .i64 ne, .int .i64 z]) 39 := by
          rw [← hw5]
          repeat (first | exact Blk.newAt (by first | rfl | (simp; done) | (simp; omega)) | apply Blk.alloc | apply Blk.drew)
        clear hw5
        have hb5 := (hb3.keep hc4 NoB.elim).keep hc5 NoB.elim
        have hc05 : Chg NoB w w5 := (((hc1.tr hc2).tr hc3).tr hc4).tr hc5
        have hc25 : Chg NoB w2 w5 := (hc3.tr hc4).tr hc5
        clear q0 q1 q2 q3 q4
        have x0 : w5.cell? ⟨w2.heap.size, 0, none⟩ = some (.int .i64 (0)) := hb5.cell 0
        have x1 : w5.cell? ⟨w2.heap.size, 1, none⟩ = some (.string ⟨#[]⟩) := hb5.cell 1
        have x2 : w5.cell? ⟨w2.heap.size, 2, none⟩ = some (.int .i64 (0)) := hb5.cell 2
        have x3 : w5.cell? ⟨w2.heap.size, 3, none⟩ = some (.int .i64 (0)) := hb5.cell 3
        have x4 : w5.cell? ⟨w2.heap.size, 4, none⟩ = some ((.slice none 0 0)) := hb5.cell 4
        have y0 : w5.cell? ⟨w4.heap.size, 0, none⟩ = some (.int .i64 (0)) := hn5.cell 0
        have y1 : w5.cell? ⟨w4.heap.size, 1, none⟩ = some (.string ⟨#[]⟩) := hn5.cell 1
        have y2 : w5.cell? ⟨w4.heap.size, 2, none⟩ = some (.int .i64 (0)) := hn5.cell 2
        have y3 : w5.cell? ⟨w4.heap.size, 3, none⟩ = some (.int .i64 (0)) := hn5.cell 3
        have y4 : w5.cell? ⟨w4.heap.size, 4, none⟩ = some ((.slice none 0 0)) := hn5.cell 4
        have m0 : w5.cell? ⟨w4.heap.size + 1, 0, none⟩ = some (.int .i64 ne) := hf5.cell 0
        have m1 : w5.cell? ⟨w4.heap.size + 1, 1, none⟩ = some (.int .i64 z) := hf5.cell 1
        have hl1 := hb5.lt
        have hl2 := hn5.lt
        have hl3 := hf5.lt
        have hT : Told w5 A (.iface 112 (.pointer (some ⟨p, 0, none⟩))) ne z := HTd.out.keep0 hc25
        have HT := Lib.hid hT
        clear hT
        go_wp2_with fail
        refine (faulted_yes (.iface 112 (.pointer (some ⟨p, 0, none⟩))) ne z w5 A (hA.sents.keep0 hc05) HT.out (by omega)).mono ?_
        rintro en w6 ⟨rfl, hc6⟩
        have hb6 := hb5.keep hc6 NoB.elim
        clear x0 x1 x2 x3 x4 y0 y1 y2 y3 y4
        have x0 : w6.cell? ⟨w2.heap.size, 0, none⟩ = some (.int .i64 (0)) := hb6.cell 0
        have x1 : w6.cell? ⟨w2.heap.size, 1, none⟩ = some (.string ⟨#[]⟩) := hb6.cell 1
        have x2 : w6.cell? ⟨w2.heap.size, 2, none⟩ = some (.int .i64 (0)) := hb6.cell 2
        have x3 : w6.cell? ⟨w2.heap.size, 3, none⟩ = some (.int .i64 (0)) := hb6.cell 3
        have x4 : w6.cell? ⟨w2.heap.size, 4, none⟩ = some (.slice none 0 0) := hb6.cell 4
        have hl6 := hb6.lt
        go_wp2_with fail
        refine (sameNode_yes _ zeroNd w6 (fun _ => False) (fun _ => False) _ _ (Nat.le_refl _) (zero_reads _ _) (zero_reads _ _) zeroNd_ok).mono ?_
        rintro en w7 ⟨rfl, hc7⟩
        go_wp2_with fail
        go_ret
        exact ⟨rfl, (hc05.tr hc6).tr hc7⟩
end Go.Proofs.YtfbbfhhhfbibjaaGreatDoor
