/-
  file.parts: the groups of a file.; What the row's list gives: the package's variables.
-/
import Derived.Test.YtkchmgjmecojcaaGreatDoorSumW
import Derived.Test.YtkchmgjmecojcaaGreatDoorParse
import Derived.OpenShut
import Derived.LaidLaws
set_option linter.unusedVariables false
set_option maxHeartbeats 20000000
set_option maxRecDepth 100000
set_option linter.unusedSimpArgs false
namespace Go.Proofs.YtkchmgjmecojcaaGreatDoor
open Go.RowKit
theorem infoSpot : (Tryz.prog.info? 151).map (fun i => (i.zero, i.size, i.bytes)) = some (some (.agg #[.int .i64 0, .int .i64 0]), 2, 16) := by kernel_rfl
theorem infoPart : (Tryz.prog.info? 150).map (fun i => (i.zero, i.size, i.bytes)) = some (some (.agg #[.int .i64 0, .slice none 0 0]), 2, 32) := by kernel_rfl
def RetParts (o : Option (List Pt)) (w : World) (en : Ending) (w' : World) : Prop :=
 Chg NoB w w' ∧ match o with
 | none => ∃ a n c, en = .returned (.tuple #[.slice a n c, .bool false])
 | some q => ∃ a c, en = .returned (.tuple #[.slice a q.length c, .bool true]) ∧ Reads w' (fun b => w.heap.size ≤ b) (.list 2 (q.map Pt.dt)) [.slice a q.length c]
def lenS : Value → Nat
 | .slice _ n _ => n
 | _ => 0
theorem spots_succ (q : List Nat) (k : Nat) : spotsOf q (k + 1) = spotsOf q k ++ [(q.getD (1 + 2 * k) 0, q.getD (2 + 2 * k) 0)] := by
 unfold spotsOf
 rw [List.range_succ, List.map_append]
 rfl
theorem part_over {last : Nat} {o : Option (List Pt × Nat)} {done : List Pt} (h : ∀ r z, o = some (r, z) → z ≠ last) :
  (match o.map (fun r => (done ++ r.1, r.2)) with
  | none => none
  | some (r, b) => if b = last then some r else none) = none := by
 cases o with
 | none => rfl
 | some p => exact if_neg (h p.1 p.2 rfl)
def PiRel (k : Nat) (rest : List Nat) (a x0 : Nat) (w0 : World) (vi va : Value) (wi : World) : Prop :=
 ∃ (i : Nat) (vch : Value), i ≤ k ∧ vi = .int .i64 (i : Nat) ∧ va = .int .i64 (spotAt rest a i : Nat) ∧ spotOk rest a i = true ∧ Blk wi w0.heap.size [.int .i64 (x0 : Nat), vch] 150 ∧
  Own wi (w0.heap.size + 1) 151 2 (fun _ => False) vch ((spotsOf rest i).map spDt) ∧ Chg NoB w0 wi
def PaRel (k last : Nat) (q : List Nat) (w w2 : World) (vl vo va : Value) (wr : World) : Prop :=
 ∃ (rest : List Nat) (m a : Nat) (done : List Pt), LsAt w2 vl rest ∧ rest.length = m * (1 + 2 * k) ∧ rest.length ≤ q.length ∧ (∀ x ∈ rest, x ≤ 200000) ∧ va = .int .i64 (a : Nat) ∧ a + rest.length * 200000 ≤ 4 + q.length * 200000 ∧
  done.length + rest.length ≤ q.length ∧ Own wr w2.heap.size 150 2 (fun b => w2.heap.size ≤ b) vo (done.map Pt.dt) ∧ Chg NoB w2 wr ∧
  grpF k (q.length / (1 + 2 * k)) 4 q = (grpF k m a rest).map (fun r => (done ++ r.1, r.2)) 
theorem parts_any (g : List UInt8) (k last : Nat) (w : World) (e : Value) (he : ∃ T v, e = .iface T v) (hce : w.cell? ⟨1, 0, none⟩ = some e) (hs : g.length ≤ 1000000) (hk : k ≤ 1000) (hlast : last ≤ 1000000) :
  Calls Tryz.prog 30 #[.string ⟨g.toArray⟩, .int .i64 (k : Nat), .int .i64 (last : Nat)] w (RetParts (partF k last g) w) := by
 go_enter Tryz.func30, Tryz.ntmps30
 go_wp2_with fail
 refine (numbers_any g w e he hce (by omega)).mono ?_
 rintro en w2 ⟨hc2, hm⟩
 cases hq : numsF (g.length + 1) g with
 | none =>
  rw [hq] at hm
  obtain rfl := hm
  have Hq := Lib.hid hq
  clear hq
  go_wp2_with fail
  go_ret2
  refine ⟨hc2, ?_⟩
  rw [part_nums Hq.out]
  exact ⟨none, 0, 0, rfl⟩
 | some q =>
  rw [hq] at hm
  obtain ⟨a2, c2, rfl, hr2⟩ := hm
  obtain ⟨hq1, hq2⟩ := nums_le _ _ _ hq
  have hl2 := LsAt.of hr2
  have Hq := Lib.hid hq
  have Hq2 := Lib.hid hq2
  clear hq hq2
  have h2k : (0 : Int) < 1 + 2 * (k : Int) := by omega
  by_cases hmod : q.length % (1 + 2 * k) = 0
  ·have hmod' : (((q.length : Int) % (1 + 2 * (k : Int))) != 0) = false := by
    have : ((q.length : Int) % (1 + 2 * (k : Int))) = ((q.length % (1 + 2 * k) : Nat) : Int) := by simp
    rw [this, hmod]; rfl
   have Hmod := Lib.hid hmod
   clear hmod
   go_wp2_with fail
   clear hmod' h2k
   go_loopw [8, 10, 11] (PaRel k last q w w2) (fun vl _ _ _ => lenS vl)
   case atStart => exact ⟨q, q.length / (1 + 2 * k), 4, [], hl2, by have := Nat.div_add_mod q.length (1 + 2 * k); rw [Hmod.out, Nat.add_zero, Nat.mul_comm] at this; exact this.symm, Nat.le_refl _, Hq2.out, rfl, Nat.le_refl _, by simp, Own.nil _ _ _ _ _, Chg.refl _ _, by simp⟩
   case round =>
    obtain ⟨rest, m, a, done, hls, hrl, hrq, hrb, rfl, hab, hdq, hown, hc, hres⟩ := hrel
    obtain ⟨A, c, rfl, hl1, hl3, hls⟩ := hls
    have Hres := Lib.hid hres
    have Hrl := Lib.hid hrl
    clear hres hrl
    by_cases hrest : rest = []
    ·subst hrest
     obtain ⟨oa, oc, hform⟩ := hown.form
     subst hform
     obtain rfl : m = 0 := by
      rcases Nat.eq_zero_or_pos m with h0 | h0
      ·exact h0
      ·have h1 := Hrl.out
       have h2 : 1 * (1 + 2 * k) ≤ m * (1 + 2 * k) := Nat.mul_le_mul_right _ h0
       simp only [List.length_nil] at h1
       omega
     have hdl : (done.map Pt.dt).length = done.length := List.length_map ..
     rw [hdl] at hown
     have hpart : partF k last g = if a = last then some done else none := by
      rw [part_grp Hq.out Hmod.out, Hres.out]
      simp [grpF]
     have Hpart := Lib.hid hpart
     clear hpart hls hdl
     have hR := hown.reads (S' := fun b => w.heap.size ≤ b) (fun z h => Nat.le_trans hc2.size h) (fun z h _ => Nat.le_trans hc2.size h) (by rw [List.length_map]; simp [maxLen]; omega)
     have HR := Lib.hid hR
     clear hR
     by_cases hal : a = last
     ·subst hal
      go_wp2_with fail
      go_ret2
      refine ⟨hc2.tr hc, ?_⟩
      rw [Hpart.out, if_pos trivial]
      exact ⟨oa, oc, rfl, HR.out⟩
     ·have hal' : ((a : Int) == (last : Int)) = false := by simp; omega
      have Hal := Lib.hid hal
      clear hal
      go_wp2_with fail
      go_ret2
      refine ⟨hc2.tr hc, ?_⟩
      rw [Hpart.out, if_neg Hal.out]
      exact ⟨_, _, _, rfl⟩
    ·obtain ⟨b, off, rfl, hb, hcell⟩ := hls hrest
     have hpos : 0 < rest.length := List.length_pos_iff.2 hrest
     have hposI : (0 : Int) < (rest.length : Int) := by omega
     have Hcell := Lib.hid hcell
     obtain ⟨x0, hx0⟩ : ∃ x, rest[0]? = some x := ⟨_, List.getElem?_eq_getElem hpos⟩
     have c0 : wr.cell? ⟨b, off, none⟩ = some (.int .i64 (x0 : Nat)) := (hc.cell (p := ⟨b, off, none⟩) hb nbE).trans (hcell 0 x0 hx0)
     have Hx0 := Lib.hid hx0
     have Hrest := Lib.hid hrest
     clear hcell hls hx0 hrest
     have hm1 : 1 ≤ m := by
      rcases Nat.eq_zero_or_pos m with h0 | h0
      ·subst h0; have := Hrl.out; omega
      ·exact h0
     have hlen1 : 1 + 2 * k ≤ rest.length := by
      rw [Hrl.out]; exact Nat.le_mul_of_pos_left _ hm1
     go_wp2_with fail
     obtain ⟨wo, hwo⟩ : ∃ x, x = wr := ⟨_, rfl⟩
     subst hwo
     generalize hw3 : World.alloc _ _ = w3
     have hc3 : Chg NoB wo w3 := by
      rw [← hw3]
      repeat (first | exact Chg.refl _ _ | apply Chg.alloc | apply Chg.drew)
     have hb3 : Blk w3 (wo.heap.size) ([.int .i64 (x0 : Nat), .slice none 0 0]) 150 := by
      rw [← hw3]
      repeat (first | exact Blk.newAt (by first | rfl | (simp; done) | (simp; omega)) | apply Blk.alloc | apply Blk.drew)
     clear hw3
     go_loopw [39, 11] (PiRel k rest a x0 wo) (fun vi _ _ => k - (intOf vi).toNat)
     case atStart => exact ⟨0, _, Nat.zero_le _, rfl, rfl, rfl, hb3, Own.nil _ _ _ _ _, hc3⟩
     case round =>
      obtain ⟨i, vch, hi, rfl, rfl, hok, hpb, hch, hci⟩ := hrel
      obtain ⟨pa, pc, hform⟩ := hch.form
      subst hform
      have hsl : ((spotsOf rest i).map spDt).length = i := by simp [spotsOf]
      rw [hsl] at hpb hch
      have Hsl := Lib.hid hsl
      clear hsl
      by_cases hik : i < k
      ·have hikI : (i : Int) < (k : Int) := by omega
       have hx1 := Hcell.out (1 + 2 * i) (rest.getD (1 + 2 * i) 0) (by rw [List.getD_eq_getElem?_getD, List.getElem?_eq_getElem (by omega)]; rfl)
       have hx2 := Hcell.out (2 + 2 * i) (rest.getD (2 + 2 * i) 0) (by rw [List.getD_eq_getElem?_getD, List.getElem?_eq_getElem (by omega)]; rfl)
       have hbd1 : rest.getD (1 + 2 * i) 0 ≤ 200000 := by
        rw [List.getD_eq_getElem?_getD, List.getElem?_eq_getElem (by omega)]; exact hrb _ (List.getElem_mem _)
       have hbd2 : rest.getD (2 + 2 * i) 0 ≤ 200000 := by
        rw [List.getD_eq_getElem?_getD, List.getElem?_eq_getElem (by omega)]; exact hrb _ (List.getElem_mem _)
       have hc2i := hc.tr hci
       have d1 := (hc2i.cell (p := ⟨b, off + (1 + 2 * i), none⟩) hb nbE).trans hx1
       have d2 := (hc2i.cell (p := ⟨b, off + (2 + 2 * i), none⟩) hb nbE).trans hx2
       have hab2 := spotAt_bd hrb a i
       have hstep1 : spotAt rest a (i + 1) = spotAt rest a i + rest.getD (2 + 2 * i) 0 := rfl
       obtain ⟨at1, hat1⟩ : ∃ z, z = spotAt rest a i := ⟨_, rfl⟩
       obtain ⟨x1, hxx1⟩ : ∃ z, z = rest.getD (1 + 2 * i) 0 := ⟨_, rfl⟩
       obtain ⟨x2, hxx2⟩ : ∃ z, z = rest.getD (2 + 2 * i) 0 := ⟨_, rfl⟩
       rw [← hxx1] at d1 hbd1
       rw [← hxx2] at d2 hbd2 hstep1
       rw [← hat1] at hab2 hstep1 ⊢
       have Hat1 := Lib.hid hat1
       have Hxx1 := Lib.hid hxx1
       have Hxx2 := Lib.hid hxx2
       have Hstep := Lib.hid hstep1
       have hib : i * 200000 ≤ rest.length * 200000 := Nat.mul_le_mul_right _ (by omega)
       clear hat1 hxx1 hxx2 hstep1 hx1 hx2 c0
       have hbi : b < wr.heap.size := Nat.lt_of_lt_of_le hb hc2i.size
       go_wp2_with fail
       refine wp_region_n (fun w' => w'.cell? ⟨b, off + (1 + 2 * i), none⟩ = some (.int .i64 (x1 : Nat)) ∧ w'.cell? ⟨b, off + (2 + 2 * i), none⟩ = some (.int .i64 (x2 : Nat))) [14] (by kernel_rfl) ?_ (fun hSh => ?_)
       ·exact ⟨d1, d2⟩
       have u1 : (0 : Int) ≤ 1 + 2 * (i : Int) := by omega
       have u2 : 1 + 2 * (i : Int) < (rest.length : Int) := by omega
       have u3 : (0 : Int) ≤ 2 + 2 * (i : Int) := by omega
       have u4 : 2 + 2 * (i : Int) < (rest.length : Int) := by omega
       have u5 : (1 + 2 * (i : Int)).toNat = 1 + 2 * i := by omega
       have u6 : (2 + 2 * (i : Int)).toNat = 2 + 2 * i := by omega
       have u7 : IntKind.i64.wrap (2 * (i : Int)) = 2 * (i : Int) := IntWalk.i64_in _ (by omega)
       have u8 : IntKind.i64.wrap (1 + 2 * (i : Int)) = 1 + 2 * (i : Int) := IntWalk.i64_in _ (by omega)
       have u9 : IntKind.i64.wrap (2 + 2 * (i : Int)) = 2 + 2 * (i : Int) := IntWalk.i64_in _ (by omega)
       refine n_from 0 ?_
       intro htk
       iterate 13
        refine n_tB (v := ?_) htk rfl (Or.inl ⟨by rfl, ?_⟩) ?_
        rotate_left 1
        ·(intro w' hSw; (try dsimp only at hSw); go_simp; try with_reducible rfl)
        clear htk
        intro htk
        simp only [Nat.reduceAdd] at htk
        simp only [Act.put, qA, qB, qC, qD, qE, qF]
       clear htk
       clear u5 u6 u7 u8 u9
       refine n_step 13 rfl (by kernel_rfl) ?_
       go_wp2_with fail
       generalize hw4 : World.drew (World.alloc _ _) = w4
       have hc4 : Chg NoB wr w4 := by
        rw [← hw4]
        repeat (first | exact Chg.refl _ _ | apply Chg.alloc | apply Chg.drew)
       have hb4 : Blk w4 (wr.heap.size) ([.int .i64 0, .int .i64 0]) 151 := by
        rw [← hw4]
        repeat (first | exact Blk.newAt (by first | rfl | (simp; done) | (simp; omega)) | apply Blk.alloc | apply Blk.drew)
       clear hw4
       refine ⟨fun _ => ⟨(hc4.cell (p := ⟨b, off + (1 + 2 * i), none⟩) hbi nbE).trans d1, (hc4.cell (p := ⟨b, off + (2 + 2 * i), none⟩) hbi nbE).trans d2⟩, fun hSk => ?_⟩
       replace hSk := hSk (by rfl)
       refine n_step 14 rfl (by kernel_rfl) ?_
       have z0 : w4.cell? ⟨wr.heap.size, 0, none⟩ = some (.int .i64 0) := hb4.cell 0
       have z1 : w4.cell? ⟨wr.heap.size, 1, none⟩ = some (.int .i64 0) := hb4.cell 1
       have y0 : w4.frozen? ⟨wr.heap.size, 0, none⟩ = false := hb4.free 0
       have y1 : w4.frozen? ⟨wr.heap.size, 1, none⟩ = false := hb4.free 1
       go_wp2_with fail
       refine ⟨fun hx => absurd hx (by decide), fun _ => ?_⟩
       refine n_done (by kernel_rfl) ?_
       have hb5 := (hb4.set 0 (.int .i64 (x1 : Nat))).set 1 (.int .i64 (x2 : Nat))
       have hc5 : Chg (OneB wr.heap.size) w4 ((w4.setCell ⟨wr.heap.size, 0, none⟩ (.int .i64 (x1 : Nat))).setCell ⟨wr.heap.size, 1, none⟩ (.int .i64 (x2 : Nat))) := ((Chg.refl (OneB wr.heap.size) w4).setCell (p := ⟨wr.heap.size, 0, none⟩) (.inl rfl) _).setCell (p := ⟨wr.heap.size, 1, none⟩) (.inl rfl) _
       generalize World.setCell (World.setCell w4 ⟨wr.heap.size, 0, none⟩ (.int .i64 (x1 : Nat))) ⟨wr.heap.size, 1, none⟩ (.int .i64 (x2 : Nat)) = w5 at hb5 hc5 ⊢
       have hcr5 : Chg NoB wr w5 := hc4.trans hc5 (fun z e => .inr (by have e : z = wr.heap.size := e; omega))
       have e0 : w5.cell? ⟨wr.heap.size, 0, none⟩ = some (.int .i64 (x1 : Nat)) := hb5.cell 0
       have e1 : w5.cell? ⟨wr.heap.size, 1, none⟩ = some (.int .i64 (x2 : Nat)) := hb5.cell 1
       clear z0 z1 y0 y1
       by_cases hxa : x1 = at1
       ·subst hxa
        have hp5 := hpb.keep hcr5 nbE
        have p0 : w5.cell? ⟨wo.heap.size, 0, none⟩ = some (.int .i64 (x0 : Nat)) := hp5.cell 0
        have p1 : w5.cell? ⟨wo.heap.size, 1, none⟩ = some (.slice pa i pc) := hp5.cell 1
        have q1 : w5.frozen? ⟨wo.heap.size, 1, none⟩ = false := hp5.free 1
        have hib2 : (x1 : Int) + (x2 : Int) ≤ 9000000000000000000 := by omega
        go_wp2_with (at_builtin; refine stop_here ?_)
        refine Stop.go ?_
        generalize hw6 : World.alloc _ _ = w6
        have hc6 : Chg NoB w5 w6 := by
         rw [← hw6]
         repeat (first | exact Chg.refl _ _ | apply Chg.alloc | apply Chg.drew)
        have hb6 : Blk w6 (w5.heap.size) ([.int .i64 (x1 : Nat), .int .i64 (x2 : Nat)]) 151 := by
         rw [← hw6]
         repeat (first | exact Blk.newAt (by first | rfl | (simp; done) | (simp; omega)) | apply Blk.alloc | apply Blk.drew)
        clear hw6
        have hcr6 := hcr5.tr hc6
        have ho6 := hch.keep hcr6 (fun _ h => h.elim) (fun _ _ => nbE)
        have hz0 := hci.size
        have hz6 := hcr6.size
        have hpl := hpb.lt
        refine wpList_own rfl (.tmp 64) (.tmp 66) 148 rfl (wo.heap.size + 1) 151 Tryz.underlying148 infoSpot rfl (by decide) rfl ho6 rfl [spDt (x1, x2)] [.int .i64 (x1 : Nat), .int .i64 (x2 : Nat)] rfl (ReadsC.single rfl (reads_sp _ _ _ _)) hb6.news (fun e => by cases e) ?_ ?_ ?_ ?_
        ·rw [Hsl.out]; simp [maxLen]; omega
        ·rw [Hsl.out]; omega
        ·omega
        intro ao7 cap7 w7 ho7 hc7 _
        rw [Hsl.out] at ho7 ⊢
        have hne7 : ∀ z, (Value.slice pa i pc).ownBlock = some z → wo.heap.size + 1 ≤ z := fun z hz => (hch.block z hz).1
        have hp7 := (hp5.keep hc6 nbE).keep hc7 (fun e => by have := hne7 _ e; omega)
        have p7 : w7.cell? ⟨wo.heap.size, 1, none⟩ = some (.slice pa i pc) := hp7.cell 1
        have q7 : w7.frozen? ⟨wo.heap.size, 1, none⟩ = false := hp7.free 1
        clear p0 p1 q1 e0 e1
        go_wp2_with fail
        go_roundw
        case rel =>
         have hb8 := hp7.set 1 (.slice ao7 (i + 1) cap7)
         have hc8 : Chg (OneB wo.heap.size) w7 (w7.setCell ⟨wo.heap.size, 1, none⟩ (.slice ao7 (i + 1) cap7)) := (Chg.refl (OneB wo.heap.size) w7).setCell (p := ⟨wo.heap.size, 1, none⟩) (.inl rfl) _
         refine ⟨i + 1, .slice ao7 (i + 1) cap7, by omega, by go_num, by rw [Hstep.out]; go_num, ?_, hb8, ?_, ?_⟩
         ·simp only [spotOk, hok, ← Hxx1.out, ← Hat1.out, Bool.true_and, decide_true]
         ·rw [spots_succ, List.map_append, ← Hxx1.out, ← Hxx2.out]
          exact ho7.keep hc8 (fun _ h => h.elim) (fun z hz e => by have := (ho7.block z hz).1; have e : z = wo.heap.size := e; omega)
         ·exact ((hci.tr hcr6).trans hc7 (fun z e => .inr (by have := hne7 z e; omega))).trans hc8 (fun z e => .inr (Nat.le_of_eq (Eq.symm e)))
        case measure => simp [intOf]; omega
       ·have hxa' : ((x1 : Int) != (at1 : Int)) = true := by simp; omega
        have Hxa := Lib.hid hxa
        clear hxa
        go_wp2_with fail
        go_ret2
        refine ⟨hc2.tr (hc.tr (hci.tr hcr5)), ?_⟩
        obtain ⟨m', rfl⟩ : ∃ z, m = z + 1 := ⟨m - 1, by omega⟩
        rw [part_grp Hq.out Hmod.out, Hres.out, grp_bad (.inl (spotOk_miss hik (by rw [← Hxx1.out, ← Hat1.out]; exact Hxa.out)))]
        exact ⟨none, 0, 0, rfl⟩
      ·have hikI : ¬ (i : Int) < (k : Int) := by omega
       obtain rfl : i = k := by omega
       have p0 : wr.cell? ⟨wo.heap.size, 0, none⟩ = some (.int .i64 (x0 : Nat)) := hpb.cell 0
       have p1 : wr.cell? ⟨wo.heap.size, 1, none⟩ = some (.slice pa i pc) := hpb.cell 1
       have hg0 : rest.getD 0 0 = x0 := by rw [List.getD_eq_getElem?_getD, Hx0.out]; rfl
       have hab2 := spotAt_bd hrb a i
       have hib : i * 200000 ≤ rest.length * 200000 := Nat.mul_le_mul_right _ (by omega)
       obtain ⟨at1, hat1⟩ : ∃ z, z = spotAt rest a i := ⟨_, rfl⟩
       rw [← hat1] at hab2 ⊢
       have Hat1 := Lib.hid hat1
       have Hg0 := Lib.hid hg0
       obtain ⟨m', hm'⟩ : ∃ z, m = z + 1 := ⟨m - 1, by omega⟩
       subst hm'
       clear hat1 hg0 c0
       by_cases hx00 : x0 = 0
       ·have hx0' : decide ((x0 : Int) < 1) = true := by simp; omega
        have Hx00 := Lib.hid hx00
        clear hx00
        go_wp2_with fail
        go_ret2
        refine ⟨hc2.tr (hc.tr hci), ?_⟩
        rw [part_grp Hq.out Hmod.out, Hres.out, grp_bad (.inr (by rw [Hg0.out]; exact Hx00.out))]
        exact ⟨none, 0, 0, rfl⟩
       ·have hx0' : decide ((x0 : Int) < 1) = false := by simp; omega
        by_cases hgt : last < at1
        ·have hgt' : decide ((last : Int) < (at1 : Int)) = true := by simp; omega
         have Hx00 := Lib.hid hx00
         clear hx00
         go_wp2_with fail
         go_ret2
         have hnone : partF i last g = none := by
          rw [part_grp Hq.out Hmod.out, Hres.out]
          refine part_over fun r z hr => ?_
          rw [grp_more hok (by rw [Hg0.out]; exact Hx00.out)] at hr
          obtain ⟨r2, h2, h3⟩ := Option.map_eq_some_iff.1 hr
          have h5 := grp_le _ _ _ _ _ h2
          rw [← Hat1.out] at h5
          have h4 : r2.2 = z := congrArg Prod.snd h3
          omega
         refine ⟨hc2.tr (hc.tr hci), ?_⟩
         rw [hnone]
         exact ⟨none, 0, 0, rfl⟩
        ·have hgt' : decide ((last : Int) < (at1 : Int)) = false := by simp; omega
         have Hx00 := Lib.hid hx00
         clear hx00
         go_wp2_with fail
         refine wp_region_n (fun w' => w'.cell? ⟨wo.heap.size, 0, none⟩ = some (.int .i64 (x0 : Nat)) ∧ w'.cell? ⟨wo.heap.size, 1, none⟩ = some (.slice pa i pc)) [] (by kernel_rfl) ?_ (fun hSh => ?_)
         ·exact ⟨p0, p1⟩
         have u1 : (0 : Int) ≤ 1 + 2 * (i : Int) := by omega
         have u2 : 1 + 2 * (i : Int) ≤ (rest.length : Int) := by omega
         have u5 : (1 + 2 * (i : Int)).toNat = 1 + 2 * i := by omega
         have u7 : IntKind.i64.wrap (2 * (i : Int)) = 2 * (i : Int) := IntWalk.i64_in _ (by omega)
         have u8 : IntKind.i64.wrap (1 + 2 * (i : Int)) = 1 + 2 * (i : Int) := IntWalk.i64_in _ (by omega)
         have hl1I : (rest.length : Int) ≤ (c : Int) := by omega
         refine n_tA (v := ?_) 0 rfl (Or.inl ⟨by rfl, ?_⟩) ?_
         rotate_left 1
         ·(intro w' hSw; (try dsimp only at hSw); go_simp; try with_reducible rfl)
         simp only [Act.put, qA, qB, qC, qD, qE, qF]
         refine n_tA (v := ?_) 1 rfl (Or.inl ⟨by rfl, ?_⟩) ?_
         rotate_left 1
         ·(intro w' hSw; (try dsimp only at hSw); go_simp; try with_reducible rfl)
         simp only [Act.put, qA, qB, qC, qD, qE, qF]
         refine n_from 4 ?_
         intro htk
         iterate 5
          refine n_tB (v := ?_) htk rfl (Or.inl ⟨by rfl, ?_⟩) ?_
          rotate_left 1
          ·(intro w' hSw; (try dsimp only at hSw); go_simp; try with_reducible rfl)
          clear htk
          intro htk
          simp only [Nat.reduceAdd] at htk
          simp only [Act.put, qA, qB, qC, qD, qE, qF]
         clear htk
         clear u1 u2 u5 u7 u8 hl1I hikI hi hik
         obtain ⟨AA, hAA⟩ : ∃ X : Option Addr, X = (if c = 1 + 2 * i then some ⟨b, off, none⟩ else some ⟨b, off + (1 + 2 * i), none⟩) := ⟨_, rfl⟩
         rw [← hAA]
         have HAA := Lib.hid hAA
         clear hAA
         refine n_step 2 rfl (by kernel_rfl) ?_
         go_wp2_with fail
         generalize hw4 : World.drew (World.alloc _ _) = w4
         have hc4 : Chg NoB wr w4 := by
          rw [← hw4]
          repeat (first | exact Chg.refl _ _ | apply Chg.alloc | apply Chg.drew)
         have hb4 : Blk w4 (wr.heap.size) ([.int .i64 (x0 : Nat), .slice pa i pc]) 150 := by
          rw [← hw4]
          repeat (first | exact Blk.newAt (by first | rfl | (simp; done) | (simp; omega)) | apply Blk.alloc | apply Blk.drew)
         clear hw4
         have hpl := hpb.lt
         refine ⟨fun _ => ⟨(hc4.cell (p := ⟨wo.heap.size, 0, none⟩) hpl nbE).trans p0, (hc4.cell (p := ⟨wo.heap.size, 1, none⟩) hpl nbE).trans p1⟩, fun hSk => ?_⟩
         replace hSk := hSk (by rfl)
         refine n_step 3 rfl (by kernel_rfl) ?_
         have hz0 := hci.size
         have hz4 := hc4.size
         have hzw := hc2.size
         have hzo := hc.size
         have hc04 := hci.tr hc4
         have ho4 := hown.inHeap.keep hc04 (fun _ _ => nbE) (fun _ _ => nbE)
         have hch4 := hch.keep hc4 (fun _ h => h.elim) (fun _ _ => nbE)
         have hrc := hch4.reads (S' := fun z => w2.heap.size ≤ z ∧ z < w4.heap.size ∧ wo.heap.size ≤ z) (fun _ h => h.elim) (fun z h1 h2 => ⟨by omega, h2, by omega⟩) (by rw [Hsl.out]; simp [maxLen]; omega)
         have hob : ∀ z, Value.ownBlock u10 = some z → w2.heap.size ≤ z ∧ z < wo.heap.size := hown.block
         have hdl : (done.map Pt.dt).length = done.length := List.length_map ..
         refine wpList_own rfl (.tmp 78) (.tmp 80) 35 rfl w2.heap.size 150 Tryz.underlying35 infoPart rfl (by decide) rfl (ho4.mono (Nat.le_refl _) (S' := fun z => w2.heap.size ≤ z) (fun z h => h.1)) rfl [Pt.dt ⟨x0, spotsOf rest i⟩] [.int .i64 (x0 : Nat), .slice pa i pc] rfl (ReadsC.single rfl (reads_pt (hrc.mono (fun z h => ⟨h.1, fun e => by have := (hob z e).2; have := h.2.2; omega⟩)))) hb4.news (fun e => by cases e) ?_ ?_ ?_ ?_
         ·rw [hdl]; simp [maxLen]; omega
         ·rw [hdl]; omega
         ·omega
         intro ao9 cap9 w9 ho9 hc9 _
         rw [hdl] at ho9 ⊢
         go_wp2_with fail
         have hp4 := hpb.keep hc4 nbE
         have hp9 := hp4.keep hc9 (fun e => by have := (hob _ e).2; omega)
         refine ⟨fun _ => ⟨hp9.cell 0, hp9.cell 1⟩, fun hSk => ?_⟩
         replace hSk := hSk (by rfl)
         refine n_tA (v := ?_) 9 rfl (Or.inl ⟨by rfl, ?_⟩) ?_
         rotate_left 1
         ·(intro w' hSw; (try dsimp only at hSw); go_simp; try with_reducible rfl)
         simp only [Act.put, qA, qB, qC, qD, qE, qF]
         refine n_tA (v := ?_) 10 rfl (Or.inl ⟨by rfl, ?_⟩) ?_
         rotate_left 1
         ·(intro w' hSw; (try dsimp only at hSw); go_simp; try with_reducible rfl)
         simp only [Act.put, qA, qB, qC, qD, qE, qF]
         refine n_done (by kernel_rfl) ?_
         go_wp2_with fail
         go_roundw
         case rel =>
          have hrl9 : (rest.drop (1 + 2 * i)).length = rest.length - (1 + 2 * i) := List.length_drop
          refine ⟨rest.drop (1 + 2 * i), m', at1, done ++ [⟨x0, spotsOf rest i⟩], LsAt.drop hlen1 hl1 hl3 hb Hcell.out HAA.out, ?_, by omega, fun x hx => hrb x (List.mem_of_mem_drop hx), rfl, ?_, ?_, ?_, ?_, ?_⟩
          ·rw [hrl9, Hrl.out, Nat.succ_mul, Nat.add_sub_cancel]
          ·rw [hrl9, Nat.mul_sub_right_distrib]
           have h7 : i * 200000 ≤ (1 + 2 * i) * 200000 := Nat.mul_le_mul_right _ (by omega)
           have h8 : (1 + 2 * i) * 200000 ≤ rest.length * 200000 := Nat.mul_le_mul_right _ hlen1
           omega
          ·rw [hrl9, List.length_append, List.length_singleton]; omega
          ·rw [List.map_append]
           exact ho9
          ·exact (hc.tr hc04).trans hc9 (fun z e => .inr (hob z e).1)
          ·rw [Hres.out, grp_more hok (by rw [Hg0.out]; exact Hx00.out), Option.map_map, Hat1.out, Hg0.out]
           congr 1
           funext r
           simp
         case measure =>
          simp only [lenS]
          omega
  ·have hmod' : (((q.length : Int) % (1 + 2 * (k : Int))) != 0) = true := by
    have : ((q.length : Int) % (1 + 2 * (k : Int))) = ((q.length % (1 + 2 * k) : Nat) : Int) := by simp
    rw [this, bne_iff_ne]; omega
   have Hmod := Lib.hid hmod
   clear hmod
   go_wp2_with fail
   go_ret2
   refine ⟨hc2, ?_⟩
   rw [part_size Hq.out Hmod.out]
   exact ⟨none, 0, 0, rfl⟩
theorem laid_get {P : Program} {W : World} {n : String} {d : DataW Unit} : ∀ {l : List (String × DataW Unit)} {ps : List MemPlace}, DataW.LaidVars P W l ps → (n, d) ∈ l →
  ∃ g t cs fuel p, P.globalNamed n = some g ∧ (P.globals[g]?).map (·.type) = some t ∧ W.var? P n = some cs ∧ DataW.trod (fun _ => ()) P W 0 (fun _ => true) false fuel t cs.toList = some (d, p)
 | [], _, _, h => by cases h
 | (n', d') :: r, ps, hl, h => by
  obtain ⟨g, t, cs, fuel, p, q, h1, h2, h3, h4, h5, _⟩ := hl
  rcases List.mem_cons.1 h with h | h
  ·obtain ⟨rfl, rfl⟩ := Prod.mk.inj h
   exact ⟨g, t, cs, fuel, p, h1, h2, h3, h4⟩
  ·exact laid_get h5 h
theorem laid_iface {P : Program} {W : World} {n nm : String} {d : DataW Unit} {l : List (String × DataW Unit)} {ps : List MemPlace} {g t : Nat} {ms : Array (String × TypeId)} (hL : DataW.LaidVars P W l ps) (hm : (n, .iface nm d) ∈ l)
  (hg : P.globalNamed n = some g) (hty : (P.globals[g]?).map (·.type) = some t) (ht : P.underlying t = some (.interface ms)) : ∃ T v, W.cell? ⟨g, 0, none⟩ = some (.iface T v) := by
 obtain ⟨g', t', cs, fuel, p, h1, h2, h3, h4⟩ := laid_get hL hm
 obtain rfl := Option.some.inj (hg.symm.trans h1)
 obtain rfl := Option.some.inj (hty.symm.trans h2)
 obtain ⟨_, u, v, h5, _, _⟩ := iface_of_trod ht h4
 refine ⟨u, v, ?_⟩
 rw [World.var?_cell hg h3, ← Array.getElem?_toList, h5]
 rfl
theorem strs_of {H : Type} {enc : TypeId × Value → H} {P : Program} {W : World} {base : Nat} {sp : Nat → Bool} {held : Bool} {fuel : Nat} {t e : TypeId} {n : Nat} {cs : List Value} {l : List (List UInt8)} {p : List MemPlace}
  (ht : P.underlying t = some (.array n e)) (he : P.underlying e = some TypeDesc.string) (hce : P.cellsOf e = 1) (h : DataW.trod enc P W base sp held fuel t cs = some (DataW.agg (l.map fun b => DataW.lit (Lit.string b)), p)) :
  ∀ (i : Nat) (b : List UInt8), l[i]? = some b → cs[i]? = some (.string ⟨b.toArray⟩) := by
 obtain ⟨xs, m, _, hx, hcl, hxl, hi⟩ := DataW.trod_array ht h
 intro i b hb
 have hx1 : (l.map fun b => (DataW.lit (Lit.string b) : DataW H)) = xs.map (fun z => z.1) := by
  have := congrArg Prod.fst hx
  simpa using this
 have hll : l.length = xs.length := by simpa using congrArg List.length hx1
 have hil : i < l.length := (List.getElem?_eq_some_iff.1 hb).1
 have h1 := congrArg (fun z => z[i]?) hx1
 simp only [List.getElem?_map, hb, Option.map_some] at h1
 rw [List.getElem?_eq_getElem (by omega)] at h1
 simp only [Option.map_some, Option.some.injEq] at h1
 have h2 := hi i (by omega)
 rw [hce, Nat.mul_one, List.getElem?_eq_getElem (by omega)] at h2
 obtain ⟨s, h3, h4, _⟩ := DataW.trod_string he h2
 rw [h4] at h1
 simp only [DataW.lit.injEq, Lit.string.injEq] at h1
 have h5 : cs[i]? = some (.string s) := by
  have := congrArg (fun z => z[0]?) h3
  simpa using this
 rw [h5, h1]
theorem laid_strs {P : Program} {W : World} {nm : String} {l : List (List UInt8)} {lv : List (String × DataW Unit)} {ps : List MemPlace} {g t e n : Nat} (hL : DataW.LaidVars P W lv ps) (hm : (nm, DataW.agg (l.map fun b => DataW.lit (Lit.string b))) ∈ lv)
  (hg : P.globalNamed nm = some g) (hty : (P.globals[g]?).map (·.type) = some t) (ht : P.underlying t = some (.array n e)) (he : P.underlying e = some TypeDesc.string) (hce : P.cellsOf e = 1) :
  ∀ (i : Nat) (b : List UInt8), l[i]? = some b → W.cell? ⟨g, i, none⟩ = some (.string ⟨b.toArray⟩) := by
 obtain ⟨g', t', cs, fuel, p, h1, h2, h3, h4⟩ := laid_get hL hm
 obtain rfl := Option.some.inj (hg.symm.trans h1)
 obtain rfl := Option.some.inj (hty.symm.trans h2)
 intro i b hb
 rw [World.var?_cell hg h3, ← Array.getElem?_toList]
 exact strs_of ht he hce h4 i b hb
theorem laid_tab {P : Program} {W : World} {nm : String} {k : IntKind} {zs : List Int} {lv : List (String × DataW Unit)} {ps : List MemPlace} {g t e n : Nat} (hL : DataW.LaidVars P W lv ps) (hm : (nm, Lib.tabData k zs) ∈ lv)
  (hg : P.globalNamed nm = some g) (hty : (P.globals[g]?).map (·.type) = some t) (ht : P.underlying t = some (.array n e)) (he : P.underlying e = some (.int k)) (hce : P.cellsOf e = 1) (hct : P.cellsOf t = n) : Lib.TabIs P W nm k zs := by
 obtain ⟨g', t', cs, fuel, p, h1, h2, h3, h4⟩ := laid_get hL hm
 obtain rfl := Option.some.inj (hg.symm.trans h1)
 obtain rfl := Option.some.inj (hty.symm.trans h2)
 unfold Lib.TabIs
 rw [h3, ← Lib.cells_of_tab ht he hce hct h4]
theorem gB : Tryz.prog.globalNamed "shredcol/api.ErrBound" = some 0 := by kernel_rfl
theorem gT : Tryz.prog.globalNamed "shredcol/api.ErrText" = some 1 := by kernel_rfl
theorem gS : Tryz.prog.globalNamed "shredcol/api.ErrShape" = some 2 := by kernel_rfl
theorem gN : Tryz.prog.globalNamed "shredcol/api.ErrName" = some 4 := by kernel_rfl
theorem gY : Tryz.prog.globalNamed "strconv.ErrSyntax" = some 12 := by kernel_rfl
theorem gR : Tryz.prog.globalNamed "strconv.ErrRange" = some 13 := by kernel_rfl
theorem gReps : Tryz.prog.globalNamed "shredcol/schema.reps" = some 8 := by kernel_rfl
theorem gKinds : Tryz.prog.globalNamed "shredcol/schema.kinds" = some 9 := by kernel_rfl
def errText (l : List UInt8) : DataW Unit := .iface "*errors.errorString" (.ptr (.agg [.lit (.string l)]))
def repsD : DataW Unit := .agg [.lit (.string []), .lit (.string [114, 101, 113, 117, 105, 114, 101, 100]), .lit (.string [111, 112, 116, 105, 111, 110, 97, 108]), .lit (.string [114, 101, 112, 101, 97, 116, 101, 100])]
def kindsD : DataW Unit := .agg [.lit (.string [103, 114, 111, 117, 112]), .lit (.string [98, 111, 111, 108]), .lit (.string [105, 110, 116]), .lit (.string [108, 111, 110, 103]), .lit (.string [98, 121, 116, 101, 115]), .lit (.string [100, 111, 117, 98, 108, 101])]
structure Lists (lv : List (String × DataW Unit)) : Prop where
 b : ∃ l, ("shredcol/api.ErrBound", errText l) ∈ lv
 t : ∃ l, ("shredcol/api.ErrText", errText l) ∈ lv
 s : ∃ l, ("shredcol/api.ErrShape", errText l) ∈ lv
 n : ∃ l, ("shredcol/api.ErrName", errText l) ∈ lv
 y : ∃ l, ("strconv.ErrSyntax", errText l) ∈ lv
 r : ∃ l, ("strconv.ErrRange", errText l) ∈ lv
 reps : ("shredcol/schema.reps", repsD) ∈ lv
 kinds : ("shredcol/schema.kinds", kindsD) ∈ lv
 pow : ("internal/strconv.uint64pow10", Lib.tabData .u64 Lib.pow10Tab) ∈ lv
theorem glo_of {lv : List (String × DataW Unit)} {W : World} (hlv : Lists lv) (hL : laidMet Tryz.prog lv W) : ∃ E, Glo W.heap.size E W := by
 obtain ⟨ps, hV, _⟩ := hL
 obtain ⟨_, m1⟩ := hlv.b
 obtain ⟨_, m2⟩ := hlv.t
 obtain ⟨_, m3⟩ := hlv.s
 obtain ⟨_, m4⟩ := hlv.n
 obtain ⟨_, m5⟩ := hlv.y
 obtain ⟨_, m6⟩ := hlv.r
 obtain ⟨T1, v1, c1⟩ := laid_iface hV m1 gB (by kernel_rfl) Tryz.underlying24
 obtain ⟨T2, v2, c2⟩ := laid_iface hV m2 gT (by kernel_rfl) Tryz.underlying24
 obtain ⟨T3, v3, c3⟩ := laid_iface hV m3 gS (by kernel_rfl) Tryz.underlying24
 obtain ⟨T4, v4, c4⟩ := laid_iface hV m4 gN (by kernel_rfl) Tryz.underlying24
 obtain ⟨T5, v5, c5⟩ := laid_iface hV m5 gY (by kernel_rfl) Tryz.underlying24
 obtain ⟨T6, v6, c6⟩ := laid_iface hV m6 gR (by kernel_rfl) Tryz.underlying24
 have hreps := laid_strs (l := [[], [114, 101, 113, 117, 105, 114, 101, 100], [111, 112, 116, 105, 111, 110, 97, 108], [114, 101, 112, 101, 97, 116, 101, 100]]) (e := 9) hV hlv.reps gReps (by kernel_rfl) Tryz.underlying129 Tryz.underlying9 (by kernel_rfl)
 have hkinds := laid_strs (l := [[103, 114, 111, 117, 112], [98, 111, 111, 108], [105, 110, 116], [108, 111, 110, 103], [98, 121, 116, 101, 115], [100, 111, 117, 98, 108, 101]]) (e := 9) hV hlv.kinds gKinds (by kernel_rfl) Tryz.underlying130 Tryz.underlying9 (by kernel_rfl)
 have hpow : Lib.TabIs Tryz.prog W "internal/strconv.uint64pow10" .u64 Lib.pow10Tab := laid_tab hV hlv.pow pow_at (t := 282) (e := 64) (by kernel_rfl) Tryz.underlying282 Tryz.underlying64 (by kernel_rfl) (by kernel_rfl)
 have l1 := lt_of_cell c1
 have l2 := lt_of_cell c2
 have l3 := lt_of_cell c3
 have l4 := lt_of_cell c4
 have l5 := lt_of_cell c5
 have l6 := lt_of_cell c6
 have l7 := lt_of_cell (hreps 0 _ rfl)
 have l8 := lt_of_cell (hkinds 0 _ rfl)
 have l9 : 11 < W.heap.size := by
  have h1 := hpow.cell pow_at 0 (by decide)
  exact lt_of_cell h1
 refine ⟨fun e => match e with | .bound => .iface T1 v1 | .text => .iface T2 v2 | .shape => .iface T3 v3 | .name => .iface T4 v4, ⟨fun e => ?_, fun e => ?_⟩, ⟨⟨l7, l8, l9⟩, fun i s hi => ?_, fun i s hi => ?_, hpow⟩, ⟨T5, v5, c5⟩, ⟨T6, v6, c6⟩, ⟨fun e => ?_, l5, l6⟩⟩
 ·cases e
  ·exact c1
  ·exact c2
  ·exact c3
  ·exact c4
 ·cases e
  ·exact ⟨_, _, rfl⟩
  ·exact ⟨_, _, rfl⟩
  ·exact ⟨_, _, rfl⟩
  ·exact ⟨_, _, rfl⟩
 ·have := hreps i s.data.toList (by
   have h1 := congrArg (fun z => z.map (fun x : ByteArray => x.data.toList)) hi
   rw [← List.getElem?_map] at h1
   exact h1)
  rw [this]
 ·have := hkinds i s.data.toList (by
   have h1 := congrArg (fun z => z.map (fun x : ByteArray => x.data.toList)) hi
   rw [← List.getElem?_map] at h1
   exact h1)
  rw [this]
 ·cases e
  ·exact l1
  ·exact l2
  ·exact l3
  ·exact l4
end Go.Proofs.YtkchmgjmecojcaaGreatDoor
