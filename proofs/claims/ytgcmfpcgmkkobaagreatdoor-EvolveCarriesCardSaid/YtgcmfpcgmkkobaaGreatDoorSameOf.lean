/-
 shredcolref4.SameOf: two schemas, alike but for names and places, by the lists of all places.
-/
import Derived.Test.YtgcmfpcgmkkobaaGreatDoorSameLaw
import Derived.Test.YtgcmfpcgmkkobaaGreatDoorPackB
import Derived.Test.YtgcmfpcgmkkobaaGreatDoorPackA
import Derived.Deep.DeepCutAuto
set_option linter.unusedVariables false
set_option linter.unusedSimpArgs false
namespace Go.Proofs.YtgcmfpcgmkkobaaGreatDoor
open Go.RowKit

def condF (x y : Kn) : Bool := !decide (x.1.id = y.1.id) || pairB x y
theorem sameF_cond (A B : List Kn) : sameF A B = A.all fun x => B.all (condF x) := rfl
def SoOut (K1 K2 : List Kn) (w : World) (vi : Value) (wr : World) : Prop := ∃ J : Nat, 1 ≤ J ∧ J ≤ K1.length + 1 ∧ vi = .int .i64 (J : Nat) ∧ Chg NoB w wr ∧ (K1.take (J - 1)).all (fun x => K2.all (condF x)) = true
def SoIn (K2 : List Kn) (x : Kn) (w : World) (vk : Value) (wr : World) : Prop := ∃ M : Nat, 1 ≤ M ∧ M ≤ K2.length + 1 ∧ vk = .int .i64 (M : Nat) ∧ Chg NoB w wr ∧ (K2.take (M - 1)).all (condF x) = true
theorem take_all {α : Type} {l : List α} {j : Nat} {f : α → Bool} (hj : j < l.length) (h : (l.take j).all f = true) (hx : f l[j] = true) : (l.take (j + 1)).all f = true := by
 rw [List.take_succ_eq_append_getElem hj, List.all_append, h]
 simp [hx]
theorem so_bad {K1 K2 : List Kn} {x y : Kn} (hx : x ∈ K1) (hy : y ∈ K2) (h : condF x y = false) : sameF K1 K2 = false := by
 rw [sameF_cond, List.all_eq_false]
 refine ⟨x, hx, ?_⟩
 simp only [Bool.not_eq_true]
 rw [List.all_eq_false]
 exact ⟨y, hy, by simp [h]⟩

set_option maxHeartbeats 2000000 in
set_option maxRecDepth 100000 in
theorem sameOf_any (a b : Nd) (w : World) (S : Nat → Prop) (ca cb : List Value) (ha : Reads w S a.dt ca) (hb : Reads w S b.dt cb) (hoka : a.ok) (hokb : b.ok) (hfa : flatOf a = fullN a 1 (-1) 0) (hfb : flatOf b = fullN b 1 (-1) 0) :
  Calls Tryz.prog 17 #[.agg ca.toArray, .agg cb.toArray] w (RetV (.bool (sameF (knOf a) (knOf b))) w) := by
 obtain ⟨hlA, hkA⟩ := kn_flat hfa
 obtain ⟨hlB, hkB⟩ := kn_flat hfb
 have hleA : (flatOf a).length ≤ 2001 := flatN_le a [] 1 (-1) (by simp)
 have hleB : (flatOf b).length ≤ 2001 := flatN_le b [] 1 (-1) (by simp)
 have HlA := Lib.hid hlA
 have HlB := Lib.hid hlB
 have HkA := Lib.hid hkA
 have HkB := Lib.hid hkB
 clear hfa hfb hlA hlB hkA hkB
 obtain ⟨i, nm, r, k, s⟩ := a
 obtain ⟨i', nm', r', k', s'⟩ := b
 have ha' := ha
 have hb' := hb
 obtain ⟨sv, rfl, hs⟩ := reads_nd.1 ha'
 obtain ⟨sa, cap, rfl, _, _, _⟩ := reads_subs hs
 obtain ⟨sv', rfl, hs'⟩ := reads_nd.1 hb'
 obtain ⟨sa', cap', rfl, _, _, _⟩ := reads_subs hs'
 go_enter Tryz.func17, Tryz.ntmps17
 go_wp2_with fail
 generalize hw1 : World.alloc _ _ = w1
 have hc1 : Chg NoB w w1 := by
  rw [← hw1]
  repeat (first | exact Chg.refl _ _ | apply Chg.alloc | apply Chg.drew)
 have hB1 : Blk w1 (w.heap.size + 1) (ndCells i' nm' r' k' (.slice sa' s'.length cap')) 28 := by
  rw [← hw1]
  repeat (first | exact Blk.newAt (by first | rfl | (simp; done) | (simp; omega)) | apply Blk.alloc | apply Blk.drew)
 clear hw1
 refine (Flat_any (.mk i nm r k s) w1 S _ (ha.chg0 hc1) hoka).mono ?_
 rintro en w2 ⟨ao1, cp1, rfl, hrl1, hc2⟩
 have hB2 := hB1.keep hc2 NoB.elim
 have hc02 := hc1.tr hc2
 have x0 : w2.cell? ⟨w.heap.size + 1, 0, none⟩ = some (.int .i64 (i')) := hB2.cell 0
 have x1 : w2.cell? ⟨w.heap.size + 1, 1, none⟩ = some (.string nm') := hB2.cell 1
 have x2 : w2.cell? ⟨w.heap.size + 1, 2, none⟩ = some (.int .i64 (r')) := hB2.cell 2
 have x3 : w2.cell? ⟨w.heap.size + 1, 3, none⟩ = some (.int .i64 (k')) := hB2.cell 3
 have x4 : w2.cell? ⟨w.heap.size + 1, 4, none⟩ = some (.slice sa' s'.length cap') := hB2.cell 4
 have hz2 := hB2.lt
 rw [List.length_map] at hrl1 ⊢
 obtain ⟨-, hL1, hL2, hel1⟩ := pl_cells hrl1
 rw [HlA.out] at hL1 hleA hel1 ⊢
 clear hrl1 hB1 hc1
 obtain ⟨b1, off1, rfl, hb1, hE1⟩ := hel1 (by omega)
 clear hel1
 go_wp2_with fail
 refine (Flat_any (.mk i' nm' r' k' s') w2 S _ (hb.chg0 hc02) hokb).mono ?_
 rintro en w3 ⟨ao2, cp2, rfl, hrl2, hc3⟩
 have hc03 := hc02.tr hc3
 rw [List.length_map] at hrl2 ⊢
 obtain ⟨-, hM1, hM2, hel2⟩ := pl_cells hrl2
 rw [HlB.out] at hM1 hleB hel2 ⊢
 obtain ⟨b2, off2, rfl, hb2, hE2⟩ := hel2 (by omega)
 clear hrl2 hel2 x0 x1 x2 x3 x4 hB2 hz2 hs hs' ha hb ha' hb'
 have hE1 : ∀ j p, (flatOf (.mk i nm r k s))[j]? = some p → PlAt w3 b1 (off1 + j * 7) p := fun j p hj => (hE1 j p hj).keep0 hb1 hc3
 have hb1 : b1 < w3.heap.size := Nat.lt_of_lt_of_le hb1 hc3.size
 clear hc3 hc02
 generalize knOf (.mk i nm r k s) = K1 at *
 generalize knOf (.mk i' nm' r' k' s') = K2 at *
 generalize flatOf (.mk i nm r k s) = L1 at *
 generalize flatOf (.mk i' nm' r' k' s') = L2 at *
 have HE1 := Lib.hid hE1
 have HE2 := Lib.hid hE2
 clear hE1 hE2
 obtain ⟨N1, hN1⟩ : ∃ N, N = K1.length + 1 := ⟨_, rfl⟩
 obtain ⟨N2, hN2⟩ : ∃ N, N = K2.length + 1 := ⟨_, rfl⟩
 rw [← hN1] at HlA hleA hL1 ⊢
 rw [← hN2] at HlB hleB hM1 ⊢
 have g1 : N1 ≤ K1.length + 1 := Nat.le_of_eq hN1
 have g2 : K1.length + 1 ≤ N1 := Nat.le_of_eq hN1.symm
 have g3 : N2 ≤ K2.length + 1 := Nat.le_of_eq hN2
 have g4 : K2.length + 1 ≤ N2 := Nat.le_of_eq hN2.symm
 clear hN1 hN2
 go_wp2_with fail
 go_loopw [7] (fun vi wr => SoOut K1 K2 w3 vi wr) (fun vi _ => K1.length + 2 - (intOf vi).toNat)
 case atStart => exact ⟨1, Nat.le_refl _, by omega, rfl, Chg.refl _ _, rfl⟩
 case round =>
  obtain ⟨J, hJ1, hJ2, rfl, hcr, hall⟩ := hrel
  have Hall := Lib.hid hall
  clear hall
  by_cases hlt : J ≤ K1.length
  ·have hltI : (J : Int) < (N1 : Int) := by omega
   have hx : K1[J - 1]? = some (K1[J - 1]'(by omega)) := List.getElem?_eq_getElem (by omega)
   have hxm : K1[J - 1]'(by omega) ∈ K1 := List.getElem_mem _
   have hkn := HkA.out (J - 1) _ hx
   rw [Nat.sub_add_cancel hJ1] at hkn
   have hout : K2.all (condF (K1[J - 1]'(by omega))) = true → (K1.take (J + 1 - 1)).all (fun x => K2.all (condF x)) = true := fun h => by
    have h1 := take_all (f := fun x => K2.all (condF x)) (j := J - 1) (by omega) Hall.out h
    rwa [show J - 1 + 1 = J + 1 - 1 by omega] at h1
   generalize K1[J - 1]'(by omega) = x at hxm hkn hout
   obtain ⟨p, ba, pa, hp, hpn, hpa, hba, hpi⟩ := hkn
   have hJL : J < L1.length := (List.getElem?_eq_some_iff.1 hp).1
   have hbL : ba < L1.length := (List.getElem?_eq_some_iff.1 hba).1
   rw [HlA.out] at hbL hJL
   have Hp := Lib.hid hp
   have Hba := Lib.hid hba
   have Hpn := Lib.hid hpn
   have Hpa := Lib.hid hpa
   have Hpi := Lib.hid hpi
   have HxK := Lib.hid hxm
   have Hout := Lib.hid hout
   clear hp hba hpn hpa hpi hxm hout hx
   go_wp2_with fail
   go_loopw [8] (fun vk wq => SoIn K2 x w3 vk wq) (fun vk _ => K2.length + 2 - (intOf vk).toNat)
   case atStart => exact ⟨1, Nat.le_refl _, by omega, rfl, hcr, rfl⟩
   case round =>
    obtain ⟨M, hM1', hM2', rfl, hcq, halq⟩ := hrel
    have Halq := Lib.hid halq
    clear halq
    by_cases hltM : M ≤ K2.length
    ·have hltMI : (M : Int) < (N2 : Int) := by omega
     have hy : K2[M - 1]? = some (K2[M - 1]'(by omega)) := List.getElem?_eq_getElem (by omega)
     have hym : K2[M - 1]'(by omega) ∈ K2 := List.getElem_mem _
     have hkn := HkB.out (M - 1) _ hy
     rw [Nat.sub_add_cancel hM1'] at hkn
     have hnext : condF x (K2[M - 1]'(by omega)) = true → (K2.take (M + 1 - 1)).all (condF x) = true := fun h => by
      have h1 := take_all (f := condF x) (j := M - 1) (by omega) Halq.out h
      rwa [show M - 1 + 1 = M + 1 - 1 by omega] at h1
     generalize K2[M - 1]'(by omega) = y at hym hkn hnext
     obtain ⟨q, bb, pb, hq, hqn, hqa, hbb, hqi⟩ := hkn
     have hML : M < L2.length := (List.getElem?_eq_some_iff.1 hq).1
     have hbM : bb < L2.length := (List.getElem?_eq_some_iff.1 hbb).1
     rw [HlB.out] at hbM hML
     have PP := (HE1.out J p Hp.out).keep0 hb1 hcq
     have PA := (HE1.out ba pa Hba.out).keep0 hb1 hcq
     have QQ := (HE2.out M q hq).keep0 hb2 hcq
     have QB := (HE2.out bb pb hbb).keep0 hb2 hcq
     obtain ⟨i1, hi1⟩ : ∃ z, z = x.1.id := ⟨_, rfl⟩
     obtain ⟨r1, hr1⟩ : ∃ z, z = x.1.rep := ⟨_, rfl⟩
     obtain ⟨k1, hk1⟩ : ∃ z, z = x.1.kind := ⟨_, rfl⟩
     obtain ⟨a1, ha1⟩ : ∃ z, z = x.2 := ⟨_, rfl⟩
     obtain ⟨i2, hi2⟩ : ∃ z, z = y.1.id := ⟨_, rfl⟩
     obtain ⟨r2, hr2⟩ : ∃ z, z = y.1.rep := ⟨_, rfl⟩
     obtain ⟨k2, hk2⟩ : ∃ z, z = y.1.kind := ⟨_, rfl⟩
     obtain ⟨a2, ha2⟩ : ∃ z, z = y.2 := ⟨_, rfl⟩
     have e0 : wr.cell? ⟨b1, off1 + J * 7, none⟩ = some (.int .i64 i1) := by rw [PP.id, Hpn.out, hi1]
     have e1 := PP.name
     have e2 : wr.cell? ⟨b1, off1 + J * 7 + 2, none⟩ = some (.int .i64 r1) := by rw [PP.rep, Hpn.out, hr1]
     have e3 : wr.cell? ⟨b1, off1 + J * 7 + 3, none⟩ = some (.int .i64 k1) := by rw [PP.kind, Hpn.out, hk1]
     obtain ⟨es, ec, e4⟩ := PP.sub
     have e6 : wr.cell? ⟨b1, off1 + J * 7 + 6, none⟩ = some (.int .i64 (ba : Nat)) := by rw [PP.around, Hpa.out]
     have ea : wr.cell? ⟨b1, off1 + ba * 7, none⟩ = some (.int .i64 a1) := by rw [PA.id, Hpi.out, ha1]
     have f0 : wr.cell? ⟨b2, off2 + M * 7, none⟩ = some (.int .i64 i2) := by rw [QQ.id, hqn, hi2]
     have f1 := QQ.name
     have f2 : wr.cell? ⟨b2, off2 + M * 7 + 2, none⟩ = some (.int .i64 r2) := by rw [QQ.rep, hqn, hr2]
     have f3 : wr.cell? ⟨b2, off2 + M * 7 + 3, none⟩ = some (.int .i64 k2) := by rw [QQ.kind, hqn, hk2]
     obtain ⟨fs, fc, f4⟩ := QQ.sub
     have f6 : wr.cell? ⟨b2, off2 + M * 7 + 6, none⟩ = some (.int .i64 (bb : Nat)) := by rw [QQ.around, hqa]
     have fb : wr.cell? ⟨b2, off2 + bb * 7, none⟩ = some (.int .i64 a2) := by rw [QB.id, hqi, ha2]
     generalize p.n.name = n1 at e1
     generalize p.n.sub.length = ln1 at e4
     generalize q.n.name = n2 at f1
     generalize q.n.sub.length = ln2 at f4
     have hcond : condF x y = (!decide (i1 = i2) || ((decide (k1 = k2) || (decide (k1 = 2) && decide (k2 = 3))) && (decide (r1 = r2) || (decide (r1 = 1) && decide (r2 = 2))) && decide (a1 = a2))) := by
      rw [hi1, hi2, hk1, hk2, hr1, hr2, ha1, ha2]
      rfl
     have Hcond0 := Lib.hid hcond
     have HyK := Lib.hid hym
     have Hnext := Lib.hid hnext
     have hq1 : b1 < wr.heap.size := Nat.lt_of_lt_of_le hb1 hcq.size
     have hq2 : b2 < wr.heap.size := Nat.lt_of_lt_of_le hb2 hcq.size
     have hbaI : (ba : Int) < (N1 : Int) := by omega
     have hbbI : (bb : Int) < (N2 : Int) := by omega
     clear PP PA QQ QB hcond hym hnext hy hq hqn hqa hbb hqi hi1 hi2 hk1 hk2 hr1 hr2 ha1 ha2
     go_upto_region 11 with fail
     generalize hw5 : World.alloc _ _ = w5
     have hc45 : Chg NoB wr w5 := by
      rw [← hw5]
      repeat (first | exact Chg.refl _ _ | apply Chg.alloc | apply Chg.drew)
     have hx5 : Blk w5 wr.heap.size [.int .i64 i1, .string n1, .int .i64 r1, .int .i64 k1, .slice es ln1 ec] 28 := by rw [← hw5]; exact (Blk.newAt rfl).alloc _
     have hy5 : Blk w5 (wr.heap.size + 1) [.int .i64 i2, .string n2, .int .i64 r2, .int .i64 k2, .slice fs ln2 fc] 28 := by rw [← hw5]; exact Blk.newAt (by simp)
     clear hw5
     have hc5 := hcq.tr hc45
     have p6 := (hc45.cell (p := ⟨b1, off1 + J * 7 + 6, none⟩) hq1 NoB.elim).trans e6
     have pa6 := (hc45.cell (p := ⟨b1, off1 + ba * 7, none⟩) hq1 NoB.elim).trans ea
     have q6 := (hc45.cell (p := ⟨b2, off2 + M * 7 + 6, none⟩) hq2 NoB.elim).trans f6
     have qb6 := (hc45.cell (p := ⟨b2, off2 + bb * 7, none⟩) hq2 NoB.elim).trans fb
     clear e0 e1 e2 e3 e4 e6 ea f0 f1 f2 f3 f4 f6 fb
     have x0 : w5.cell? ⟨wr.heap.size, 0, none⟩ = some (.int .i64 (i1)) := hx5.cell 0
     have x1 : w5.cell? ⟨wr.heap.size, 1, none⟩ = some (.string n1) := hx5.cell 1
     have x2 : w5.cell? ⟨wr.heap.size, 2, none⟩ = some (.int .i64 (r1)) := hx5.cell 2
     have x3 : w5.cell? ⟨wr.heap.size, 3, none⟩ = some (.int .i64 (k1)) := hx5.cell 3
     have x4 : w5.cell? ⟨wr.heap.size, 4, none⟩ = some (.slice es ln1 ec) := hx5.cell 4
     have y0 : w5.cell? ⟨wr.heap.size + 1, 0, none⟩ = some (.int .i64 (i2)) := hy5.cell 0
     have y1 : w5.cell? ⟨wr.heap.size + 1, 1, none⟩ = some (.string n2) := hy5.cell 1
     have y2 : w5.cell? ⟨wr.heap.size + 1, 2, none⟩ = some (.int .i64 (r2)) := hy5.cell 2
     have y3 : w5.cell? ⟨wr.heap.size + 1, 3, none⟩ = some (.int .i64 (k2)) := hy5.cell 3
     have y4 : w5.cell? ⟨wr.heap.size + 1, 4, none⟩ = some (.slice fs ln2 fc) := hy5.cell 4
     have lx5 := hx5.lt
     have ly5 := hy5.lt
     by_cases he : i1 = i2
     ·subst he
      go_upto_region 12 with fail
      go_cut [11] (fun v11 wx => v11 = .bool (decide (k1 = k2) || (decide (k1 = 2) && decide (k2 = 3))) ∧ wx = w5)
      case first =>
       by_cases h1 : k1 = k2
       ·have H1 := Lib.hid h1
        subst h1
        go_wp2_with fail
        go_meet
        exact ⟨by simp, rfl⟩
       ·by_cases h2 : k1 = 2
        ·subst h2
         have h1' : ((2 : Int) == k2) = false := by simpa using h1
         have H1 := Lib.hid h1
         clear h1
         go_wp2_with fail
         go_meet
         exact ⟨congrArg Value.bool (by simp [H1.out]; rfl), rfl⟩
        ·have h1' : (k1 == k2) = false := by simpa using h1
         have h2' : (k1 == 2) = false := by simpa using h2
         have H1 := Lib.hid h1
         have H2 := Lib.hid h2
         clear h1 h2
         go_wp2_with fail
         go_meet
         exact ⟨congrArg Value.bool (by simp [H1.out, H2.out]), rfl⟩
      case rest =>
       obtain ⟨rfl, hwc⟩ := hcut
       obtain rfl := hwc
       generalize (decide (k1 = k2) || (decide (k1 = 2) && decide (k2 = 3))) = kB at *
       go_upto_region 13 with fail
       go_cut [12] (fun v12 wx => v12 = .bool (decide (r1 = r2) || (decide (r1 = 1) && decide (r2 = 2))) ∧ wx = wc)
       case first =>
        by_cases h1 : r1 = r2
        ·have H1 := Lib.hid h1
         subst h1
         go_wp2_with fail
         go_meet
         exact ⟨by simp, rfl⟩
        ·by_cases h2 : r1 = 1
         ·subst h2
          have h1' : ((1 : Int) == r2) = false := by simpa using h1
          have H1 := Lib.hid h1
          clear h1
          go_wp2_with fail
          go_meet
          exact ⟨congrArg Value.bool (by simp [H1.out]; rfl), rfl⟩
         ·have h1' : (r1 == r2) = false := by simpa using h1
          have h2' : (r1 == 1) = false := by simpa using h2
          have H1 := Lib.hid h1
          have H2 := Lib.hid h2
          clear h1 h2
          go_wp2_with fail
          go_meet
          exact ⟨congrArg Value.bool (by simp [H1.out, H2.out]), rfl⟩
       case rest =>
        obtain ⟨rfl, hwc⟩ := hcut
        obtain rfl := hwc
        generalize (decide (r1 = r2) || (decide (r1 = 1) && decide (r2 = 2))) = rB at *
        clear x0 x1 x2 x3 x4 y0 y1 y2 y3 y4
        cases kB with
        | false =>
         have Hpb := Lib.hid (show condF x y = false from by rw [Hcond0.out]; simp)
         go_wp2_with fail
         refine wp_region_n (fun w' => w'.cell? ⟨b1, off1 + J * 7 + 6, none⟩ = some (.int .i64 (ba : Nat)) ∧ w'.cell? ⟨b1, off1 + ba * 7, none⟩ = some (.int .i64 a1) ∧ w'.cell? ⟨b2, off2 + M * 7 + 6, none⟩ = some (.int .i64 (bb : Nat)) ∧ w'.cell? ⟨b2, off2 + bb * 7, none⟩ = some (.int .i64 a2)) [] (by kernel_rfl) ?_ (fun hSh => ?_)
         ·exact ⟨p6, pa6, q6, qb6⟩
         refine n_take (v := ?_) 0 rfl (Or.inl ⟨by rfl, ?_⟩) (by kernel_rfl) (fun _ _ _ h => h) (by assumption) ?_
         rotate_left 1
         ·(intro w' hSw; (try dsimp only at hSw); go_simp; try with_reducible rfl)
         simp only [Act.put, List.getElem_toArray, List.getElem_cons_zero, List.getElem_cons_succ, List.setIfInBounds_toArray, List.set_cons_zero, List.set_cons_succ]
         refine n_take (v := ?_) 1 rfl (Or.inl ⟨by rfl, ?_⟩) (by kernel_rfl) (fun _ _ _ h => h) (by assumption) ?_
         rotate_left 1
         ·(intro w' hSw; (try dsimp only at hSw); go_simp; try with_reducible rfl)
         simp only [Act.put, List.getElem_toArray, List.getElem_cons_zero, List.getElem_cons_succ, List.setIfInBounds_toArray, List.set_cons_zero, List.set_cons_succ]
         refine n_take (v := ?_) 2 rfl (Or.inl ⟨by rfl, ?_⟩) (by kernel_rfl) (fun _ _ _ h => h) (by assumption) ?_
         rotate_left 1
         ·(intro w' hSw; (try dsimp only at hSw); go_simp; try with_reducible rfl)
         simp only [Act.put, List.getElem_toArray, List.getElem_cons_zero, List.getElem_cons_succ, List.setIfInBounds_toArray, List.set_cons_zero, List.set_cons_succ]
         refine n_take (v := undef) 3 rfl (Or.inr ⟨by rfl, rfl⟩) (by kernel_rfl) (fun _ _ _ h => h) (by assumption) ?_
         simp only [Act.put, List.getElem_toArray, List.getElem_cons_zero, List.getElem_cons_succ, List.setIfInBounds_toArray, List.set_cons_zero, List.set_cons_succ]
         refine n_take (v := undef) 4 rfl (Or.inr ⟨by rfl, rfl⟩) (by kernel_rfl) (fun _ _ _ h => h) (by assumption) ?_
         simp only [Act.put, List.getElem_toArray, List.getElem_cons_zero, List.getElem_cons_succ, List.setIfInBounds_toArray, List.set_cons_zero, List.set_cons_succ]
         refine n_take (v := ?_) 5 rfl (Or.inl ⟨by rfl, ?_⟩) (by kernel_rfl) (fun _ _ _ h => h) (by assumption) ?_
         rotate_left 1
         ·(intro w' hSw; (try dsimp only at hSw); go_simp; try with_reducible rfl)
         simp only [Act.put, List.getElem_toArray, List.getElem_cons_zero, List.getElem_cons_succ, List.setIfInBounds_toArray, List.set_cons_zero, List.set_cons_succ]
         refine n_take (v := ?_) 6 rfl (Or.inl ⟨by rfl, ?_⟩) (by kernel_rfl) (fun _ _ _ h => h) (by assumption) ?_
         rotate_left 1
         ·(intro w' hSw; (try dsimp only at hSw); go_simp; try with_reducible rfl)
         simp only [Act.put, List.getElem_toArray, List.getElem_cons_zero, List.getElem_cons_succ, List.setIfInBounds_toArray, List.set_cons_zero, List.set_cons_succ]
         refine n_take (v := undef) 7 rfl (Or.inr ⟨by rfl, rfl⟩) (by kernel_rfl) (fun _ _ _ h => h) (by assumption) ?_
         simp only [Act.put, List.getElem_toArray, List.getElem_cons_zero, List.getElem_cons_succ, List.setIfInBounds_toArray, List.set_cons_zero, List.set_cons_succ]
         refine n_take (v := undef) 8 rfl (Or.inr ⟨by rfl, rfl⟩) (by kernel_rfl) (fun _ _ _ h => h) (by assumption) ?_
         simp only [Act.put, List.getElem_toArray, List.getElem_cons_zero, List.getElem_cons_succ, List.setIfInBounds_toArray, List.set_cons_zero, List.set_cons_succ]
         refine n_take (v := undef) 9 rfl (Or.inr ⟨by rfl, rfl⟩) (by kernel_rfl) (fun _ _ _ h => h) (by assumption) ?_
         simp only [Act.put, List.getElem_toArray, List.getElem_cons_zero, List.getElem_cons_succ, List.setIfInBounds_toArray, List.set_cons_zero, List.set_cons_succ]
         refine n_take (v := undef) 10 rfl (Or.inr ⟨by rfl, rfl⟩) (by kernel_rfl) (fun _ _ _ h => h) (by assumption) ?_
         simp only [Act.put, List.getElem_toArray, List.getElem_cons_zero, List.getElem_cons_succ, List.setIfInBounds_toArray, List.set_cons_zero, List.set_cons_succ]
         refine n_take (v := undef) 11 rfl (Or.inr ⟨by rfl, rfl⟩) (by kernel_rfl) (fun _ _ _ h => h) (by assumption) ?_
         simp only [Act.put, List.getElem_toArray, List.getElem_cons_zero, List.getElem_cons_succ, List.setIfInBounds_toArray, List.set_cons_zero, List.set_cons_succ]
         refine n_take (v := undef) 12 rfl (Or.inr ⟨by rfl, rfl⟩) (by kernel_rfl) (fun _ _ _ h => h) (by assumption) ?_
         simp only [Act.put, List.getElem_toArray, List.getElem_cons_zero, List.getElem_cons_succ, List.setIfInBounds_toArray, List.set_cons_zero, List.set_cons_succ]
         refine n_take (v := undef) 13 rfl (Or.inr ⟨by rfl, rfl⟩) (by kernel_rfl) (fun _ _ _ h => h) (by assumption) ?_
         simp only [Act.put, List.getElem_toArray, List.getElem_cons_zero, List.getElem_cons_succ, List.setIfInBounds_toArray, List.set_cons_zero, List.set_cons_succ]
         refine n_take (v := undef) 14 rfl (Or.inr ⟨by rfl, rfl⟩) (by kernel_rfl) (fun _ _ _ h => h) (by assumption) ?_
         simp only [Act.put, List.getElem_toArray, List.getElem_cons_zero, List.getElem_cons_succ, List.setIfInBounds_toArray, List.set_cons_zero, List.set_cons_succ]
         refine n_take (v := undef) 15 rfl (Or.inr ⟨by rfl, rfl⟩) (by kernel_rfl) (fun _ _ _ h => h) (by assumption) ?_
         simp only [Act.put, List.getElem_toArray, List.getElem_cons_zero, List.getElem_cons_succ, List.setIfInBounds_toArray, List.set_cons_zero, List.set_cons_succ]
         refine n_take (v := undef) 16 rfl (Or.inr ⟨by rfl, rfl⟩) (by kernel_rfl) (fun _ _ _ h => h) (by assumption) ?_
         simp only [Act.put, List.getElem_toArray, List.getElem_cons_zero, List.getElem_cons_succ, List.setIfInBounds_toArray, List.set_cons_zero, List.set_cons_succ]
         refine n_take (v := undef) 17 rfl (Or.inr ⟨by rfl, rfl⟩) (by kernel_rfl) (fun _ _ _ h => h) (by assumption) ?_
         simp only [Act.put, List.getElem_toArray, List.getElem_cons_zero, List.getElem_cons_succ, List.setIfInBounds_toArray, List.set_cons_zero, List.set_cons_succ]
         refine n_take (v := undef) 18 rfl (Or.inr ⟨by rfl, rfl⟩) (by kernel_rfl) (fun _ _ _ h => h) (by assumption) ?_
         simp only [Act.put, List.getElem_toArray, List.getElem_cons_zero, List.getElem_cons_succ, List.setIfInBounds_toArray, List.set_cons_zero, List.set_cons_succ]
         refine n_take (v := undef) 19 rfl (Or.inr ⟨by rfl, rfl⟩) (by kernel_rfl) (fun _ _ _ h => h) (by assumption) ?_
         simp only [Act.put, List.getElem_toArray, List.getElem_cons_zero, List.getElem_cons_succ, List.setIfInBounds_toArray, List.set_cons_zero, List.set_cons_succ]
         refine n_take (v := undef) 20 rfl (Or.inr ⟨by rfl, rfl⟩) (by kernel_rfl) (fun _ _ _ h => h) (by assumption) ?_
         simp only [Act.put, List.getElem_toArray, List.getElem_cons_zero, List.getElem_cons_succ, List.setIfInBounds_toArray, List.set_cons_zero, List.set_cons_succ]
         refine n_take (v := undef) 21 rfl (Or.inr ⟨by rfl, rfl⟩) (by kernel_rfl) (fun _ _ _ h => h) (by assumption) ?_
         simp only [Act.put, List.getElem_toArray, List.getElem_cons_zero, List.getElem_cons_succ, List.setIfInBounds_toArray, List.set_cons_zero, List.set_cons_succ]
         refine n_take (v := undef) 22 rfl (Or.inr ⟨by rfl, rfl⟩) (by kernel_rfl) (fun _ _ _ h => h) (by assumption) ?_
         simp only [Act.put, List.getElem_toArray, List.getElem_cons_zero, List.getElem_cons_succ, List.setIfInBounds_toArray, List.set_cons_zero, List.set_cons_succ]
         refine n_take (v := undef) 23 rfl (Or.inr ⟨by rfl, rfl⟩) (by kernel_rfl) (fun _ _ _ h => h) (by assumption) ?_
         simp only [Act.put, List.getElem_toArray, List.getElem_cons_zero, List.getElem_cons_succ, List.setIfInBounds_toArray, List.set_cons_zero, List.set_cons_succ]
         refine n_take (v := undef) 24 rfl (Or.inr ⟨by rfl, rfl⟩) (by kernel_rfl) (fun _ _ _ h => h) (by assumption) ?_
         simp only [Act.put, List.getElem_toArray, List.getElem_cons_zero, List.getElem_cons_succ, List.setIfInBounds_toArray, List.set_cons_zero, List.set_cons_succ]
         refine n_take (v := undef) 25 rfl (Or.inr ⟨by rfl, rfl⟩) (by kernel_rfl) (fun _ _ _ h => h) (by assumption) ?_
         simp only [Act.put, List.getElem_toArray, List.getElem_cons_zero, List.getElem_cons_succ, List.setIfInBounds_toArray, List.set_cons_zero, List.set_cons_succ]
         refine n_take (v := undef) 26 rfl (Or.inr ⟨by rfl, rfl⟩) (by kernel_rfl) (fun _ _ _ h => h) (by assumption) ?_
         simp only [Act.put, List.getElem_toArray, List.getElem_cons_zero, List.getElem_cons_succ, List.setIfInBounds_toArray, List.set_cons_zero, List.set_cons_succ]
         refine n_take (v := undef) 27 rfl (Or.inr ⟨by rfl, rfl⟩) (by kernel_rfl) (fun _ _ _ h => h) (by assumption) ?_
         simp only [Act.put, List.getElem_toArray, List.getElem_cons_zero, List.getElem_cons_succ, List.setIfInBounds_toArray, List.set_cons_zero, List.set_cons_succ]
         refine n_take (v := ?_) 28 rfl (Or.inl ⟨by rfl, ?_⟩) (by kernel_rfl) (fun _ _ _ h => h) (by assumption) ?_
         rotate_left 1
         ·(intro w' hSw; (try dsimp only at hSw); go_simp; try with_reducible rfl)
         simp only [Act.put, List.getElem_toArray, List.getElem_cons_zero, List.getElem_cons_succ, List.setIfInBounds_toArray, List.set_cons_zero, List.set_cons_succ]
         have Hbad := Lib.hid (so_bad HxK.out HyK.out Hpb.out)
         refine n_done (by kernel_rfl) ?_
         go_wp2_with fail
         go_ret
         rw [Hbad.out]
         exact ⟨rfl, hc03.tr hc5.drew⟩
        | true =>
         cases rB with
         | false =>
          have Hpb := Lib.hid (show condF x y = false from by rw [Hcond0.out]; simp)
          go_wp2_with fail
          refine wp_region_n (fun w' => w'.cell? ⟨b1, off1 + J * 7 + 6, none⟩ = some (.int .i64 (ba : Nat)) ∧ w'.cell? ⟨b1, off1 + ba * 7, none⟩ = some (.int .i64 a1) ∧ w'.cell? ⟨b2, off2 + M * 7 + 6, none⟩ = some (.int .i64 (bb : Nat)) ∧ w'.cell? ⟨b2, off2 + bb * 7, none⟩ = some (.int .i64 a2)) [] (by kernel_rfl) ?_ (fun hSh => ?_)
          ·exact ⟨p6, pa6, q6, qb6⟩
          refine n_take (v := ?_) 0 rfl (Or.inl ⟨by rfl, ?_⟩) (by kernel_rfl) (fun _ _ _ h => h) (by assumption) ?_
          rotate_left 1
          ·(intro w' hSw; (try dsimp only at hSw); go_simp; try with_reducible rfl)
          simp only [Act.put, List.getElem_toArray, List.getElem_cons_zero, List.getElem_cons_succ, List.setIfInBounds_toArray, List.set_cons_zero, List.set_cons_succ]
          refine n_take (v := ?_) 1 rfl (Or.inl ⟨by rfl, ?_⟩) (by kernel_rfl) (fun _ _ _ h => h) (by assumption) ?_
          rotate_left 1
          ·(intro w' hSw; (try dsimp only at hSw); go_simp; try with_reducible rfl)
          simp only [Act.put, List.getElem_toArray, List.getElem_cons_zero, List.getElem_cons_succ, List.setIfInBounds_toArray, List.set_cons_zero, List.set_cons_succ]
          refine n_take (v := ?_) 2 rfl (Or.inl ⟨by rfl, ?_⟩) (by kernel_rfl) (fun _ _ _ h => h) (by assumption) ?_
          rotate_left 1
          ·(intro w' hSw; (try dsimp only at hSw); go_simp; try with_reducible rfl)
          simp only [Act.put, List.getElem_toArray, List.getElem_cons_zero, List.getElem_cons_succ, List.setIfInBounds_toArray, List.set_cons_zero, List.set_cons_succ]
          refine n_take (v := ?_) 3 rfl (Or.inl ⟨by rfl, ?_⟩) (by kernel_rfl) (fun _ _ _ h => h) (by assumption) ?_
          rotate_left 1
          ·(intro w' hSw; (try dsimp only at hSw); go_simp; try with_reducible rfl)
          simp only [Act.put, List.getElem_toArray, List.getElem_cons_zero, List.getElem_cons_succ, List.setIfInBounds_toArray, List.set_cons_zero, List.set_cons_succ]
          refine n_take (v := ?_) 4 rfl (Or.inl ⟨by rfl, ?_⟩) (by kernel_rfl) (fun _ _ _ h => h) (by assumption) ?_
          rotate_left 1
          ·(intro w' hSw; (try dsimp only at hSw); go_simp; try with_reducible rfl)
          simp only [Act.put, List.getElem_toArray, List.getElem_cons_zero, List.getElem_cons_succ, List.setIfInBounds_toArray, List.set_cons_zero, List.set_cons_succ]
          refine n_take (v := ?_) 5 rfl (Or.inl ⟨by rfl, ?_⟩) (by kernel_rfl) (fun _ _ _ h => h) (by assumption) ?_
          rotate_left 1
          ·(intro w' hSw; (try dsimp only at hSw); go_simp; try with_reducible rfl)
          simp only [Act.put, List.getElem_toArray, List.getElem_cons_zero, List.getElem_cons_succ, List.setIfInBounds_toArray, List.set_cons_zero, List.set_cons_succ]
          refine n_take (v := ?_) 6 rfl (Or.inl ⟨by rfl, ?_⟩) (by kernel_rfl) (fun _ _ _ h => h) (by assumption) ?_
          rotate_left 1
          ·(intro w' hSw; (try dsimp only at hSw); go_simp; try with_reducible rfl)
          simp only [Act.put, List.getElem_toArray, List.getElem_cons_zero, List.getElem_cons_succ, List.setIfInBounds_toArray, List.set_cons_zero, List.set_cons_succ]
          refine n_take (v := undef) 7 rfl (Or.inr ⟨by rfl, rfl⟩) (by kernel_rfl) (fun _ _ _ h => h) (by assumption) ?_
          simp only [Act.put, List.getElem_toArray, List.getElem_cons_zero, List.getElem_cons_succ, List.setIfInBounds_toArray, List.set_cons_zero, List.set_cons_succ]
          refine n_take (v := undef) 8 rfl (Or.inr ⟨by rfl, rfl⟩) (by kernel_rfl) (fun _ _ _ h => h) (by assumption) ?_
          simp only [Act.put, List.getElem_toArray, List.getElem_cons_zero, List.getElem_cons_succ, List.setIfInBounds_toArray, List.set_cons_zero, List.set_cons_succ]
          refine n_take (v := undef) 9 rfl (Or.inr ⟨by rfl, rfl⟩) (by kernel_rfl) (fun _ _ _ h => h) (by assumption) ?_
          simp only [Act.put, List.getElem_toArray, List.getElem_cons_zero, List.getElem_cons_succ, List.setIfInBounds_toArray, List.set_cons_zero, List.set_cons_succ]
          refine n_take (v := undef) 10 rfl (Or.inr ⟨by rfl, rfl⟩) (by kernel_rfl) (fun _ _ _ h => h) (by assumption) ?_
          simp only [Act.put, List.getElem_toArray, List.getElem_cons_zero, List.getElem_cons_succ, List.setIfInBounds_toArray, List.set_cons_zero, List.set_cons_succ]
          refine n_take (v := undef) 11 rfl (Or.inr ⟨by rfl, rfl⟩) (by kernel_rfl) (fun _ _ _ h => h) (by assumption) ?_
          simp only [Act.put, List.getElem_toArray, List.getElem_cons_zero, List.getElem_cons_succ, List.setIfInBounds_toArray, List.set_cons_zero, List.set_cons_succ]
          refine n_take (v := undef) 12 rfl (Or.inr ⟨by rfl, rfl⟩) (by kernel_rfl) (fun _ _ _ h => h) (by assumption) ?_
          simp only [Act.put, List.getElem_toArray, List.getElem_cons_zero, List.getElem_cons_succ, List.setIfInBounds_toArray, List.set_cons_zero, List.set_cons_succ]
          refine n_take (v := undef) 13 rfl (Or.inr ⟨by rfl, rfl⟩) (by kernel_rfl) (fun _ _ _ h => h) (by assumption) ?_
          simp only [Act.put, List.getElem_toArray, List.getElem_cons_zero, List.getElem_cons_succ, List.setIfInBounds_toArray, List.set_cons_zero, List.set_cons_succ]
          refine n_take (v := undef) 14 rfl (Or.inr ⟨by rfl, rfl⟩) (by kernel_rfl) (fun _ _ _ h => h) (by assumption) ?_
          simp only [Act.put, List.getElem_toArray, List.getElem_cons_zero, List.getElem_cons_succ, List.setIfInBounds_toArray, List.set_cons_zero, List.set_cons_succ]
          refine n_take (v := undef) 15 rfl (Or.inr ⟨by rfl, rfl⟩) (by kernel_rfl) (fun _ _ _ h => h) (by assumption) ?_
          simp only [Act.put, List.getElem_toArray, List.getElem_cons_zero, List.getElem_cons_succ, List.setIfInBounds_toArray, List.set_cons_zero, List.set_cons_succ]
          refine n_take (v := undef) 16 rfl (Or.inr ⟨by rfl, rfl⟩) (by kernel_rfl) (fun _ _ _ h => h) (by assumption) ?_
          simp only [Act.put, List.getElem_toArray, List.getElem_cons_zero, List.getElem_cons_succ, List.setIfInBounds_toArray, List.set_cons_zero, List.set_cons_succ]
          refine n_take (v := undef) 17 rfl (Or.inr ⟨by rfl, rfl⟩) (by kernel_rfl) (fun _ _ _ h => h) (by assumption) ?_
          simp only [Act.put, List.getElem_toArray, List.getElem_cons_zero, List.getElem_cons_succ, List.setIfInBounds_toArray, List.set_cons_zero, List.set_cons_succ]
          refine n_take (v := undef) 18 rfl (Or.inr ⟨by rfl, rfl⟩) (by kernel_rfl) (fun _ _ _ h => h) (by assumption) ?_
          simp only [Act.put, List.getElem_toArray, List.getElem_cons_zero, List.getElem_cons_succ, List.setIfInBounds_toArray, List.set_cons_zero, List.set_cons_succ]
          refine n_take (v := undef) 19 rfl (Or.inr ⟨by rfl, rfl⟩) (by kernel_rfl) (fun _ _ _ h => h) (by assumption) ?_
          simp only [Act.put, List.getElem_toArray, List.getElem_cons_zero, List.getElem_cons_succ, List.setIfInBounds_toArray, List.set_cons_zero, List.set_cons_succ]
          refine n_take (v := undef) 20 rfl (Or.inr ⟨by rfl, rfl⟩) (by kernel_rfl) (fun _ _ _ h => h) (by assumption) ?_
          simp only [Act.put, List.getElem_toArray, List.getElem_cons_zero, List.getElem_cons_succ, List.setIfInBounds_toArray, List.set_cons_zero, List.set_cons_succ]
          refine n_take (v := undef) 21 rfl (Or.inr ⟨by rfl, rfl⟩) (by kernel_rfl) (fun _ _ _ h => h) (by assumption) ?_
          simp only [Act.put, List.getElem_toArray, List.getElem_cons_zero, List.getElem_cons_succ, List.setIfInBounds_toArray, List.set_cons_zero, List.set_cons_succ]
          refine n_take (v := undef) 22 rfl (Or.inr ⟨by rfl, rfl⟩) (by kernel_rfl) (fun _ _ _ h => h) (by assumption) ?_
          simp only [Act.put, List.getElem_toArray, List.getElem_cons_zero, List.getElem_cons_succ, List.setIfInBounds_toArray, List.set_cons_zero, List.set_cons_succ]
          refine n_take (v := undef) 23 rfl (Or.inr ⟨by rfl, rfl⟩) (by kernel_rfl) (fun _ _ _ h => h) (by assumption) ?_
          simp only [Act.put, List.getElem_toArray, List.getElem_cons_zero, List.getElem_cons_succ, List.setIfInBounds_toArray, List.set_cons_zero, List.set_cons_succ]
          refine n_take (v := undef) 24 rfl (Or.inr ⟨by rfl, rfl⟩) (by kernel_rfl) (fun _ _ _ h => h) (by assumption) ?_
          simp only [Act.put, List.getElem_toArray, List.getElem_cons_zero, List.getElem_cons_succ, List.setIfInBounds_toArray, List.set_cons_zero, List.set_cons_succ]
          refine n_take (v := undef) 25 rfl (Or.inr ⟨by rfl, rfl⟩) (by kernel_rfl) (fun _ _ _ h => h) (by assumption) ?_
          simp only [Act.put, List.getElem_toArray, List.getElem_cons_zero, List.getElem_cons_succ, List.setIfInBounds_toArray, List.set_cons_zero, List.set_cons_succ]
          refine n_take (v := undef) 26 rfl (Or.inr ⟨by rfl, rfl⟩) (by kernel_rfl) (fun _ _ _ h => h) (by assumption) ?_
          simp only [Act.put, List.getElem_toArray, List.getElem_cons_zero, List.getElem_cons_succ, List.setIfInBounds_toArray, List.set_cons_zero, List.set_cons_succ]
          refine n_take (v := undef) 27 rfl (Or.inr ⟨by rfl, rfl⟩) (by kernel_rfl) (fun _ _ _ h => h) (by assumption) ?_
          simp only [Act.put, List.getElem_toArray, List.getElem_cons_zero, List.getElem_cons_succ, List.setIfInBounds_toArray, List.set_cons_zero, List.set_cons_succ]
          refine n_take (v := ?_) 28 rfl (Or.inl ⟨by rfl, ?_⟩) (by kernel_rfl) (fun _ _ _ h => h) (by assumption) ?_
          rotate_left 1
          ·(intro w' hSw; (try dsimp only at hSw); go_simp; try with_reducible rfl)
          simp only [Act.put, List.getElem_toArray, List.getElem_cons_zero, List.getElem_cons_succ, List.setIfInBounds_toArray, List.set_cons_zero, List.set_cons_succ]
          have Hbad := Lib.hid (so_bad HxK.out HyK.out Hpb.out)
          refine n_done (by kernel_rfl) ?_
          go_wp2_with fail
          go_ret
          rw [Hbad.out]
          exact ⟨rfl, hc03.tr hc5.drew⟩
         | true =>
          by_cases ha : a1 = a2
          ·have Hpb := Lib.hid (show condF x y = true from by rw [Hcond0.out]; simp [ha])
           have eqA : (a1 == a2) = true := by simpa using ha
           clear ha
           go_wp2_with fail
           refine wp_region_n (fun w' => w'.cell? ⟨b1, off1 + J * 7 + 6, none⟩ = some (.int .i64 (ba : Nat)) ∧ w'.cell? ⟨b1, off1 + ba * 7, none⟩ = some (.int .i64 a1) ∧ w'.cell? ⟨b2, off2 + M * 7 + 6, none⟩ = some (.int .i64 (bb : Nat)) ∧ w'.cell? ⟨b2, off2 + bb * 7, none⟩ = some (.int .i64 a2)) [] (by kernel_rfl) ?_ (fun hSh => ?_)
           ·exact ⟨p6, pa6, q6, qb6⟩
           refine n_take (v := ?_) 0 rfl (Or.inl ⟨by rfl, ?_⟩) (by kernel_rfl) (fun _ _ _ h => h) (by assumption) ?_
           rotate_left 1
           ·(intro w' hSw; (try dsimp only at hSw); go_simp; try with_reducible rfl)
           simp only [Act.put, List.getElem_toArray, List.getElem_cons_zero, List.getElem_cons_succ, List.setIfInBounds_toArray, List.set_cons_zero, List.set_cons_succ]
           refine n_take (v := ?_) 1 rfl (Or.inl ⟨by rfl, ?_⟩) (by kernel_rfl) (fun _ _ _ h => h) (by assumption) ?_
           rotate_left 1
           ·(intro w' hSw; (try dsimp only at hSw); go_simp; try with_reducible rfl)
           simp only [Act.put, List.getElem_toArray, List.getElem_cons_zero, List.getElem_cons_succ, List.setIfInBounds_toArray, List.set_cons_zero, List.set_cons_succ]
           refine n_take (v := ?_) 2 rfl (Or.inl ⟨by rfl, ?_⟩) (by kernel_rfl) (fun _ _ _ h => h) (by assumption) ?_
           rotate_left 1
           ·(intro w' hSw; (try dsimp only at hSw); go_simp; try with_reducible rfl)
           simp only [Act.put, List.getElem_toArray, List.getElem_cons_zero, List.getElem_cons_succ, List.setIfInBounds_toArray, List.set_cons_zero, List.set_cons_succ]
           refine n_take (v := ?_) 3 rfl (Or.inl ⟨by rfl, ?_⟩) (by kernel_rfl) (fun _ _ _ h => h) (by assumption) ?_
           rotate_left 1
           ·(intro w' hSw; (try dsimp only at hSw); go_simp; try with_reducible rfl)
           simp only [Act.put, List.getElem_toArray, List.getElem_cons_zero, List.getElem_cons_succ, List.setIfInBounds_toArray, List.set_cons_zero, List.set_cons_succ]
           refine n_take (v := ?_) 4 rfl (Or.inl ⟨by rfl, ?_⟩) (by kernel_rfl) (fun _ _ _ h => h) (by assumption) ?_
           rotate_left 1
           ·(intro w' hSw; (try dsimp only at hSw); go_simp; try with_reducible rfl)
           simp only [Act.put, List.getElem_toArray, List.getElem_cons_zero, List.getElem_cons_succ, List.setIfInBounds_toArray, List.set_cons_zero, List.set_cons_succ]
           refine n_take (v := ?_) 5 rfl (Or.inl ⟨by rfl, ?_⟩) (by kernel_rfl) (fun _ _ _ h => h) (by assumption) ?_
           rotate_left 1
           ·(intro w' hSw; (try dsimp only at hSw); go_simp; try with_reducible rfl)
           simp only [Act.put, List.getElem_toArray, List.getElem_cons_zero, List.getElem_cons_succ, List.setIfInBounds_toArray, List.set_cons_zero, List.set_cons_succ]
           refine n_take (v := ?_) 6 rfl (Or.inl ⟨by rfl, ?_⟩) (by kernel_rfl) (fun _ _ _ h => h) (by assumption) ?_
           rotate_left 1
           ·(intro w' hSw; (try dsimp only at hSw); go_simp; try with_reducible rfl)
           simp only [Act.put, List.getElem_toArray, List.getElem_cons_zero, List.getElem_cons_succ, List.setIfInBounds_toArray, List.set_cons_zero, List.set_cons_succ]
           refine n_take (v := ?_) 7 rfl (Or.inl ⟨by rfl, ?_⟩) (by kernel_rfl) (fun _ _ _ h => h) (by assumption) ?_
           rotate_left 1
           ·(intro w' hSw; (try dsimp only at hSw); go_simp; try with_reducible rfl)
           simp only [Act.put, List.getElem_toArray, List.getElem_cons_zero, List.getElem_cons_succ, List.setIfInBounds_toArray, List.set_cons_zero, List.set_cons_succ]
           refine n_take (v := ?_) 8 rfl (Or.inl ⟨by rfl, ?_⟩) (by kernel_rfl) (fun _ _ _ h => h) (by assumption) ?_
           rotate_left 1
           ·(intro w' hSw; (try dsimp only at hSw); go_simp; try with_reducible rfl)
           simp only [Act.put, List.getElem_toArray, List.getElem_cons_zero, List.getElem_cons_succ, List.setIfInBounds_toArray, List.set_cons_zero, List.set_cons_succ]
           refine n_take (v := ?_) 9 rfl (Or.inl ⟨by rfl, ?_⟩) (by kernel_rfl) (fun _ _ _ h => h) (by assumption) ?_
           rotate_left 1
           ·(intro w' hSw; (try dsimp only at hSw); go_simp; try with_reducible rfl)
           simp only [Act.put, List.getElem_toArray, List.getElem_cons_zero, List.getElem_cons_succ, List.setIfInBounds_toArray, List.set_cons_zero, List.set_cons_succ]
           refine n_take (v := ?_) 10 rfl (Or.inl ⟨by rfl, ?_⟩) (by kernel_rfl) (fun _ _ _ h => h) (by assumption) ?_
           rotate_left 1
           ·(intro w' hSw; (try dsimp only at hSw); go_simp; try with_reducible rfl)
           simp only [Act.put, List.getElem_toArray, List.getElem_cons_zero, List.getElem_cons_succ, List.setIfInBounds_toArray, List.set_cons_zero, List.set_cons_succ]
           refine n_take (v := ?_) 11 rfl (Or.inl ⟨by rfl, ?_⟩) (by kernel_rfl) (fun _ _ _ h => h) (by assumption) ?_
           rotate_left 1
           ·(intro w' hSw; (try dsimp only at hSw); go_simp; try with_reducible rfl)
           simp only [Act.put, List.getElem_toArray, List.getElem_cons_zero, List.getElem_cons_succ, List.setIfInBounds_toArray, List.set_cons_zero, List.set_cons_succ]
           refine n_take (v := ?_) 12 rfl (Or.inl ⟨by rfl, ?_⟩) (by kernel_rfl) (fun _ _ _ h => h) (by assumption) ?_
           rotate_left 1
           ·(intro w' hSw; (try dsimp only at hSw); go_simp; try with_reducible rfl)
           simp only [Act.put, List.getElem_toArray, List.getElem_cons_zero, List.getElem_cons_succ, List.setIfInBounds_toArray, List.set_cons_zero, List.set_cons_succ]
           refine n_take (v := ?_) 13 rfl (Or.inl ⟨by rfl, ?_⟩) (by kernel_rfl) (fun _ _ _ h => h) (by assumption) ?_
           rotate_left 1
           ·(intro w' hSw; (try dsimp only at hSw); go_simp; try with_reducible rfl)
           simp only [Act.put, List.getElem_toArray, List.getElem_cons_zero, List.getElem_cons_succ, List.setIfInBounds_toArray, List.set_cons_zero, List.set_cons_succ]
           refine n_take (v := ?_) 14 rfl (Or.inl ⟨by rfl, ?_⟩) (by kernel_rfl) (fun _ _ _ h => h) (by assumption) ?_
           rotate_left 1
           ·(intro w' hSw; (try dsimp only at hSw); go_simp; try with_reducible rfl)
           simp only [Act.put, List.getElem_toArray, List.getElem_cons_zero, List.getElem_cons_succ, List.setIfInBounds_toArray, List.set_cons_zero, List.set_cons_succ]
           refine n_take (v := ?_) 15 rfl (Or.inl ⟨by rfl, ?_⟩) (by kernel_rfl) (fun _ _ _ h => h) (by assumption) ?_
           rotate_left 1
           ·(intro w' hSw; (try dsimp only at hSw); go_simp; try with_reducible rfl)
           simp only [Act.put, List.getElem_toArray, List.getElem_cons_zero, List.getElem_cons_succ, List.setIfInBounds_toArray, List.set_cons_zero, List.set_cons_succ]
           refine n_take (v := ?_) 16 rfl (Or.inl ⟨by rfl, ?_⟩) (by kernel_rfl) (fun _ _ _ h => h) (by assumption) ?_
           rotate_left 1
           ·(intro w' hSw; (try dsimp only at hSw); go_simp; try with_reducible rfl)
           simp only [Act.put, List.getElem_toArray, List.getElem_cons_zero, List.getElem_cons_succ, List.setIfInBounds_toArray, List.set_cons_zero, List.set_cons_succ]
           refine n_take (v := ?_) 17 rfl (Or.inl ⟨by rfl, ?_⟩) (by kernel_rfl) (fun _ _ _ h => h) (by assumption) ?_
           rotate_left 1
           ·(intro w' hSw; (try dsimp only at hSw); go_simp; try with_reducible rfl)
           simp only [Act.put, List.getElem_toArray, List.getElem_cons_zero, List.getElem_cons_succ, List.setIfInBounds_toArray, List.set_cons_zero, List.set_cons_succ]
           refine n_take (v := ?_) 18 rfl (Or.inl ⟨by rfl, ?_⟩) (by kernel_rfl) (fun _ _ _ h => h) (by assumption) ?_
           rotate_left 1
           ·(intro w' hSw; (try dsimp only at hSw); go_simp; try with_reducible rfl)
           simp only [Act.put, List.getElem_toArray, List.getElem_cons_zero, List.getElem_cons_succ, List.setIfInBounds_toArray, List.set_cons_zero, List.set_cons_succ]
           refine n_take (v := ?_) 19 rfl (Or.inl ⟨by rfl, ?_⟩) (by kernel_rfl) (fun _ _ _ h => h) (by assumption) ?_
           rotate_left 1
           ·(intro w' hSw; (try dsimp only at hSw); go_simp; try with_reducible rfl)
           simp only [Act.put, List.getElem_toArray, List.getElem_cons_zero, List.getElem_cons_succ, List.setIfInBounds_toArray, List.set_cons_zero, List.set_cons_succ]
           refine n_take (v := ?_) 20 rfl (Or.inl ⟨by rfl, ?_⟩) (by kernel_rfl) (fun _ _ _ h => h) (by assumption) ?_
           rotate_left 1
           ·(intro w' hSw; (try dsimp only at hSw); go_simp; try with_reducible rfl)
           simp only [Act.put, List.getElem_toArray, List.getElem_cons_zero, List.getElem_cons_succ, List.setIfInBounds_toArray, List.set_cons_zero, List.set_cons_succ]
           refine n_take (v := ?_) 21 rfl (Or.inl ⟨by rfl, ?_⟩) (by kernel_rfl) (fun _ _ _ h => h) (by assumption) ?_
           rotate_left 1
           ·(intro w' hSw; (try dsimp only at hSw); go_simp; try with_reducible rfl)
           simp only [Act.put, List.getElem_toArray, List.getElem_cons_zero, List.getElem_cons_succ, List.setIfInBounds_toArray, List.set_cons_zero, List.set_cons_succ]
           refine n_take (v := ?_) 22 rfl (Or.inl ⟨by rfl, ?_⟩) (by kernel_rfl) (fun _ _ _ h => h) (by assumption) ?_
           rotate_left 1
           ·(intro w' hSw; (try dsimp only at hSw); go_simp; try with_reducible rfl)
           simp only [Act.put, List.getElem_toArray, List.getElem_cons_zero, List.getElem_cons_succ, List.setIfInBounds_toArray, List.set_cons_zero, List.set_cons_succ]
           refine n_take (v := ?_) 23 rfl (Or.inl ⟨by rfl, ?_⟩) (by kernel_rfl) (fun _ _ _ h => h) (by assumption) ?_
           rotate_left 1
           ·(intro w' hSw; (try dsimp only at hSw); go_simp; try with_reducible rfl)
           simp only [Act.put, List.getElem_toArray, List.getElem_cons_zero, List.getElem_cons_succ, List.setIfInBounds_toArray, List.set_cons_zero, List.set_cons_succ]
           refine n_take (v := ?_) 24 rfl (Or.inl ⟨by rfl, ?_⟩) (by kernel_rfl) (fun _ _ _ h => h) (by assumption) ?_
           rotate_left 1
           ·(intro w' hSw; (try dsimp only at hSw); go_simp; try with_reducible rfl)
           simp only [Act.put, List.getElem_toArray, List.getElem_cons_zero, List.getElem_cons_succ, List.setIfInBounds_toArray, List.set_cons_zero, List.set_cons_succ]
           refine n_take (v := ?_) 25 rfl (Or.inl ⟨by rfl, ?_⟩) (by kernel_rfl) (fun _ _ _ h => h) (by assumption) ?_
           rotate_left 1
           ·(intro w' hSw; (try dsimp only at hSw); go_simp; try with_reducible rfl)
           simp only [Act.put, List.getElem_toArray, List.getElem_cons_zero, List.getElem_cons_succ, List.setIfInBounds_toArray, List.set_cons_zero, List.set_cons_succ]
           refine n_take (v := ?_) 26 rfl (Or.inl ⟨by rfl, ?_⟩) (by kernel_rfl) (fun _ _ _ h => h) (by assumption) ?_
           rotate_left 1
           ·(intro w' hSw; (try dsimp only at hSw); go_simp; try with_reducible rfl)
           simp only [Act.put, List.getElem_toArray, List.getElem_cons_zero, List.getElem_cons_succ, List.setIfInBounds_toArray, List.set_cons_zero, List.set_cons_succ]
           refine n_take (v := ?_) 27 rfl (Or.inl ⟨by rfl, ?_⟩) (by kernel_rfl) (fun _ _ _ h => h) (by assumption) ?_
           rotate_left 1
           ·(intro w' hSw; (try dsimp only at hSw); go_simp; (try simp only [eqA]); try with_reducible rfl)
           simp only [Act.put, List.getElem_toArray, List.getElem_cons_zero, List.getElem_cons_succ, List.setIfInBounds_toArray, List.set_cons_zero, List.set_cons_succ]
           refine n_take (v := ?_) 28 rfl (Or.inl ⟨by rfl, ?_⟩) (by kernel_rfl) (fun _ _ _ h => h) (by assumption) ?_
           rotate_left 1
           ·(intro w' hSw; (try dsimp only at hSw); go_simp; try with_reducible rfl)
           simp only [Act.put, List.getElem_toArray, List.getElem_cons_zero, List.getElem_cons_succ, List.setIfInBounds_toArray, List.set_cons_zero, List.set_cons_succ]
           refine n_done (by kernel_rfl) ?_
           go_wp2_with fail
           exact ⟨⟨M + 1, by omega, by omega, by go_num, hc5.drew, Hnext.out Hpb.out⟩, by simp [intOf]; omega⟩
          ·have Hpb := Lib.hid (show condF x y = false from by rw [Hcond0.out]; simp [ha])
           have eqA : (a1 == a2) = false := by simpa using ha
           clear ha
           go_wp2_with fail
           refine wp_region_n (fun w' => w'.cell? ⟨b1, off1 + J * 7 + 6, none⟩ = some (.int .i64 (ba : Nat)) ∧ w'.cell? ⟨b1, off1 + ba * 7, none⟩ = some (.int .i64 a1) ∧ w'.cell? ⟨b2, off2 + M * 7 + 6, none⟩ = some (.int .i64 (bb : Nat)) ∧ w'.cell? ⟨b2, off2 + bb * 7, none⟩ = some (.int .i64 a2)) [] (by kernel_rfl) ?_ (fun hSh => ?_)
           ·exact ⟨p6, pa6, q6, qb6⟩
           refine n_take (v := ?_) 0 rfl (Or.inl ⟨by rfl, ?_⟩) (by kernel_rfl) (fun _ _ _ h => h) (by assumption) ?_
           rotate_left 1
           ·(intro w' hSw; (try dsimp only at hSw); go_simp; try with_reducible rfl)
           simp only [Act.put, List.getElem_toArray, List.getElem_cons_zero, List.getElem_cons_succ, List.setIfInBounds_toArray, List.set_cons_zero, List.set_cons_succ]
           refine n_take (v := ?_) 1 rfl (Or.inl ⟨by rfl, ?_⟩) (by kernel_rfl) (fun _ _ _ h => h) (by assumption) ?_
           rotate_left 1
           ·(intro w' hSw; (try dsimp only at hSw); go_simp; try with_reducible rfl)
           simp only [Act.put, List.getElem_toArray, List.getElem_cons_zero, List.getElem_cons_succ, List.setIfInBounds_toArray, List.set_cons_zero, List.set_cons_succ]
           refine n_take (v := ?_) 2 rfl (Or.inl ⟨by rfl, ?_⟩) (by kernel_rfl) (fun _ _ _ h => h) (by assumption) ?_
           rotate_left 1
           ·(intro w' hSw; (try dsimp only at hSw); go_simp; try with_reducible rfl)
           simp only [Act.put, List.getElem_toArray, List.getElem_cons_zero, List.getElem_cons_succ, List.setIfInBounds_toArray, List.set_cons_zero, List.set_cons_succ]
           refine n_take (v := ?_) 3 rfl (Or.inl ⟨by rfl, ?_⟩) (by kernel_rfl) (fun _ _ _ h => h) (by assumption) ?_
           rotate_left 1
           ·(intro w' hSw; (try dsimp only at hSw); go_simp; try with_reducible rfl)
           simp only [Act.put, List.getElem_toArray, List.getElem_cons_zero, List.getElem_cons_succ, List.setIfInBounds_toArray, List.set_cons_zero, List.set_cons_succ]
           refine n_take (v := ?_) 4 rfl (Or.inl ⟨by rfl, ?_⟩) (by kernel_rfl) (fun _ _ _ h => h) (by assumption) ?_
           rotate_left 1
           ·(intro w' hSw; (try dsimp only at hSw); go_simp; try with_reducible rfl)
           simp only [Act.put, List.getElem_toArray, List.getElem_cons_zero, List.getElem_cons_succ, List.setIfInBounds_toArray, List.set_cons_zero, List.set_cons_succ]
           refine n_take (v := ?_) 5 rfl (Or.inl ⟨by rfl, ?_⟩) (by kernel_rfl) (fun _ _ _ h => h) (by assumption) ?_
           rotate_left 1
           ·(intro w' hSw; (try dsimp only at hSw); go_simp; try with_reducible rfl)
           simp only [Act.put, List.getElem_toArray, List.getElem_cons_zero, List.getElem_cons_succ, List.setIfInBounds_toArray, List.set_cons_zero, List.set_cons_succ]
           refine n_take (v := ?_) 6 rfl (Or.inl ⟨by rfl, ?_⟩) (by kernel_rfl) (fun _ _ _ h => h) (by assumption) ?_
           rotate_left 1
           ·(intro w' hSw; (try dsimp only at hSw); go_simp; try with_reducible rfl)
           simp only [Act.put, List.getElem_toArray, List.getElem_cons_zero, List.getElem_cons_succ, List.setIfInBounds_toArray, List.set_cons_zero, List.set_cons_succ]
           refine n_take (v := ?_) 7 rfl (Or.inl ⟨by rfl, ?_⟩) (by kernel_rfl) (fun _ _ _ h => h) (by assumption) ?_
           rotate_left 1
           ·(intro w' hSw; (try dsimp only at hSw); go_simp; try with_reducible rfl)
           simp only [Act.put, List.getElem_toArray, List.getElem_cons_zero, List.getElem_cons_succ, List.setIfInBounds_toArray, List.set_cons_zero, List.set_cons_succ]
           refine n_take (v := ?_) 8 rfl (Or.inl ⟨by rfl, ?_⟩) (by kernel_rfl) (fun _ _ _ h => h) (by assumption) ?_
           rotate_left 1
           ·(intro w' hSw; (try dsimp only at hSw); go_simp; try with_reducible rfl)
           simp only [Act.put, List.getElem_toArray, List.getElem_cons_zero, List.getElem_cons_succ, List.setIfInBounds_toArray, List.set_cons_zero, List.set_cons_succ]
           refine n_take (v := ?_) 9 rfl (Or.inl ⟨by rfl, ?_⟩) (by kernel_rfl) (fun _ _ _ h => h) (by assumption) ?_
           rotate_left 1
           ·(intro w' hSw; (try dsimp only at hSw); go_simp; try with_reducible rfl)
           simp only [Act.put, List.getElem_toArray, List.getElem_cons_zero, List.getElem_cons_succ, List.setIfInBounds_toArray, List.set_cons_zero, List.set_cons_succ]
           refine n_take (v := ?_) 10 rfl (Or.inl ⟨by rfl, ?_⟩) (by kernel_rfl) (fun _ _ _ h => h) (by assumption) ?_
           rotate_left 1
           ·(intro w' hSw; (try dsimp only at hSw); go_simp; try with_reducible rfl)
           simp only [Act.put, List.getElem_toArray, List.getElem_cons_zero, List.getElem_cons_succ, List.setIfInBounds_toArray, List.set_cons_zero, List.set_cons_succ]
           refine n_take (v := ?_) 11 rfl (Or.inl ⟨by rfl, ?_⟩) (by kernel_rfl) (fun _ _ _ h => h) (by assumption) ?_
           rotate_left 1
           ·(intro w' hSw; (try dsimp only at hSw); go_simp; try with_reducible rfl)
           simp only [Act.put, List.getElem_toArray, List.getElem_cons_zero, List.getElem_cons_succ, List.setIfInBounds_toArray, List.set_cons_zero, List.set_cons_succ]
           refine n_take (v := ?_) 12 rfl (Or.inl ⟨by rfl, ?_⟩) (by kernel_rfl) (fun _ _ _ h => h) (by assumption) ?_
           rotate_left 1
           ·(intro w' hSw; (try dsimp only at hSw); go_simp; try with_reducible rfl)
           simp only [Act.put, List.getElem_toArray, List.getElem_cons_zero, List.getElem_cons_succ, List.setIfInBounds_toArray, List.set_cons_zero, List.set_cons_succ]
           refine n_take (v := ?_) 13 rfl (Or.inl ⟨by rfl, ?_⟩) (by kernel_rfl) (fun _ _ _ h => h) (by assumption) ?_
           rotate_left 1
           ·(intro w' hSw; (try dsimp only at hSw); go_simp; try with_reducible rfl)
           simp only [Act.put, List.getElem_toArray, List.getElem_cons_zero, List.getElem_cons_succ, List.setIfInBounds_toArray, List.set_cons_zero, List.set_cons_succ]
           refine n_take (v := ?_) 14 rfl (Or.inl ⟨by rfl, ?_⟩) (by kernel_rfl) (fun _ _ _ h => h) (by assumption) ?_
           rotate_left 1
           ·(intro w' hSw; (try dsimp only at hSw); go_simp; try with_reducible rfl)
           simp only [Act.put, List.getElem_toArray, List.getElem_cons_zero, List.getElem_cons_succ, List.setIfInBounds_toArray, List.set_cons_zero, List.set_cons_succ]
           refine n_take (v := ?_) 15 rfl (Or.inl ⟨by rfl, ?_⟩) (by kernel_rfl) (fun _ _ _ h => h) (by assumption) ?_
           rotate_left 1
           ·(intro w' hSw; (try dsimp only at hSw); go_simp; try with_reducible rfl)
           simp only [Act.put, List.getElem_toArray, List.getElem_cons_zero, List.getElem_cons_succ, List.setIfInBounds_toArray, List.set_cons_zero, List.set_cons_succ]
           refine n_take (v := ?_) 16 rfl (Or.inl ⟨by rfl, ?_⟩) (by kernel_rfl) (fun _ _ _ h => h) (by assumption) ?_
           rotate_left 1
           ·(intro w' hSw; (try dsimp only at hSw); go_simp; try with_reducible rfl)
           simp only [Act.put, List.getElem_toArray, List.getElem_cons_zero, List.getElem_cons_succ, List.setIfInBounds_toArray, List.set_cons_zero, List.set_cons_succ]
           refine n_take (v := ?_) 17 rfl (Or.inl ⟨by rfl, ?_⟩) (by kernel_rfl) (fun _ _ _ h => h) (by assumption) ?_
           rotate_left 1
           ·(intro w' hSw; (try dsimp only at hSw); go_simp; try with_reducible rfl)
           simp only [Act.put, List.getElem_toArray, List.getElem_cons_zero, List.getElem_cons_succ, List.setIfInBounds_toArray, List.set_cons_zero, List.set_cons_succ]
           refine n_take (v := ?_) 18 rfl (Or.inl ⟨by rfl, ?_⟩) (by kernel_rfl) (fun _ _ _ h => h) (by assumption) ?_
           rotate_left 1
           ·(intro w' hSw; (try dsimp only at hSw); go_simp; try with_reducible rfl)
           simp only [Act.put, List.getElem_toArray, List.getElem_cons_zero, List.getElem_cons_succ, List.setIfInBounds_toArray, List.set_cons_zero, List.set_cons_succ]
           refine n_take (v := ?_) 19 rfl (Or.inl ⟨by rfl, ?_⟩) (by kernel_rfl) (fun _ _ _ h => h) (by assumption) ?_
           rotate_left 1
           ·(intro w' hSw; (try dsimp only at hSw); go_simp; try with_reducible rfl)
           simp only [Act.put, List.getElem_toArray, List.getElem_cons_zero, List.getElem_cons_succ, List.setIfInBounds_toArray, List.set_cons_zero, List.set_cons_succ]
           refine n_take (v := ?_) 20 rfl (Or.inl ⟨by rfl, ?_⟩) (by kernel_rfl) (fun _ _ _ h => h) (by assumption) ?_
           rotate_left 1
           ·(intro w' hSw; (try dsimp only at hSw); go_simp; try with_reducible rfl)
           simp only [Act.put, List.getElem_toArray, List.getElem_cons_zero, List.getElem_cons_succ, List.setIfInBounds_toArray, List.set_cons_zero, List.set_cons_succ]
           refine n_take (v := ?_) 21 rfl (Or.inl ⟨by rfl, ?_⟩) (by kernel_rfl) (fun _ _ _ h => h) (by assumption) ?_
           rotate_left 1
           ·(intro w' hSw; (try dsimp only at hSw); go_simp; try with_reducible rfl)
           simp only [Act.put, List.getElem_toArray, List.getElem_cons_zero, List.getElem_cons_succ, List.setIfInBounds_toArray, List.set_cons_zero, List.set_cons_succ]
           refine n_take (v := ?_) 22 rfl (Or.inl ⟨by rfl, ?_⟩) (by kernel_rfl) (fun _ _ _ h => h) (by assumption) ?_
           rotate_left 1
           ·(intro w' hSw; (try dsimp only at hSw); go_simp; try with_reducible rfl)
           simp only [Act.put, List.getElem_toArray, List.getElem_cons_zero, List.getElem_cons_succ, List.setIfInBounds_toArray, List.set_cons_zero, List.set_cons_succ]
           refine n_take (v := ?_) 23 rfl (Or.inl ⟨by rfl, ?_⟩) (by kernel_rfl) (fun _ _ _ h => h) (by assumption) ?_
           rotate_left 1
           ·(intro w' hSw; (try dsimp only at hSw); go_simp; try with_reducible rfl)
           simp only [Act.put, List.getElem_toArray, List.getElem_cons_zero, List.getElem_cons_succ, List.setIfInBounds_toArray, List.set_cons_zero, List.set_cons_succ]
           refine n_take (v := ?_) 24 rfl (Or.inl ⟨by rfl, ?_⟩) (by kernel_rfl) (fun _ _ _ h => h) (by assumption) ?_
           rotate_left 1
           ·(intro w' hSw; (try dsimp only at hSw); go_simp; try with_reducible rfl)
           simp only [Act.put, List.getElem_toArray, List.getElem_cons_zero, List.getElem_cons_succ, List.setIfInBounds_toArray, List.set_cons_zero, List.set_cons_succ]
           refine n_take (v := ?_) 25 rfl (Or.inl ⟨by rfl, ?_⟩) (by kernel_rfl) (fun _ _ _ h => h) (by assumption) ?_
           rotate_left 1
           ·(intro w' hSw; (try dsimp only at hSw); go_simp; try with_reducible rfl)
           simp only [Act.put, List.getElem_toArray, List.getElem_cons_zero, List.getElem_cons_succ, List.setIfInBounds_toArray, List.set_cons_zero, List.set_cons_succ]
           refine n_take (v := ?_) 26 rfl (Or.inl ⟨by rfl, ?_⟩) (by kernel_rfl) (fun _ _ _ h => h) (by assumption) ?_
           rotate_left 1
           ·(intro w' hSw; (try dsimp only at hSw); go_simp; try with_reducible rfl)
           simp only [Act.put, List.getElem_toArray, List.getElem_cons_zero, List.getElem_cons_succ, List.setIfInBounds_toArray, List.set_cons_zero, List.set_cons_succ]
           refine n_take (v := ?_) 27 rfl (Or.inl ⟨by rfl, ?_⟩) (by kernel_rfl) (fun _ _ _ h => h) (by assumption) ?_
           rotate_left 1
           ·(intro w' hSw; (try dsimp only at hSw); go_simp; (try simp only [eqA]); try with_reducible rfl)
           simp only [Act.put, List.getElem_toArray, List.getElem_cons_zero, List.getElem_cons_succ, List.setIfInBounds_toArray, List.set_cons_zero, List.set_cons_succ]
           refine n_take (v := ?_) 28 rfl (Or.inl ⟨by rfl, ?_⟩) (by kernel_rfl) (fun _ _ _ h => h) (by assumption) ?_
           rotate_left 1
           ·(intro w' hSw; (try dsimp only at hSw); go_simp; try with_reducible rfl)
           simp only [Act.put, List.getElem_toArray, List.getElem_cons_zero, List.getElem_cons_succ, List.setIfInBounds_toArray, List.set_cons_zero, List.set_cons_succ]
           have Hbad := Lib.hid (so_bad HxK.out HyK.out Hpb.out)
           refine n_done (by kernel_rfl) ?_
           go_wp2_with fail
           go_ret
           rw [Hbad.out]
           exact ⟨rfl, hc03.tr hc5.drew⟩
     ·have Hpb := Lib.hid (show condF x y = true from by rw [Hcond0.out]; simp [he])
      have he' : (i1 == i2) = false := by simpa using he
      clear he
      go_wp2_with fail
      exact ⟨⟨M + 1, by omega, by omega, by go_num, hc5, Hnext.out Hpb.out⟩, by simp [intOf]; omega⟩
    ·have hMe : M - 1 = K2.length := by omega
     have hallx := Halq.out
     rw [hMe, List.take_length] at hallx
     have Hallx := Lib.hid hallx
     have hltMI : ¬ (M : Int) < (N2 : Int) := by omega
     clear hMe hallx
     go_wp2_with fail
     exact ⟨⟨J + 1, by omega, by omega, by go_num, hcq, Hout.out Hallx.out⟩, by simp [intOf]; omega⟩
  ·have hJe : J - 1 = K1.length := by omega
   have hallx := Hall.out
   rw [hJe, List.take_length] at hallx
   have Hallx := Lib.hid (show sameF K1 K2 = true from hallx)
   have hltI : ¬ (J : Int) < (N1 : Int) := by omega
   clear hJe hallx
   go_wp2_with fail
   go_ret
   rw [Hallx.out]
   exact ⟨rfl, hc03.tr hcr⟩
end Go.Proofs.YtgcmfpcgmkkobaaGreatDoor
