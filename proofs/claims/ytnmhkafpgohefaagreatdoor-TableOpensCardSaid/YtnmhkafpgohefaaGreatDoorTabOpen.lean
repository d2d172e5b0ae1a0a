/-
  table: Open, on a disk without files and on a disk with one file.
-/
import Derived.Test.YtnmhkafpgohefaaGreatDoorCommit
import Derived.Test.YtnmhkafpgohefaaGreatDoorTabRdLaw
set_option linter.unusedVariables false
set_option maxHeartbeats 20000000
set_option maxRecDepth 100000
set_option linter.unusedSimpArgs false
namespace Go.Proofs.YtnmhkafpgohefaaGreatDoor
open Go.RowKit Go.Maps
def RetRp (w : World) (en : Ending) (w' : World) : Prop :=
 Chg NoB w w' ∧ ∃ (i r k nx : Int) (nm : ByteArray) (a : Option Addr) (l c : Nat) (ev : Value), en = .returned (.tuple #[.agg #[.int .i64 i, .string nm, .int .i64 r, .int .i64 k, .slice a l c], .int .i64 nx, ev]) ∧ (ev = .nilIface ∨ ∃ T v, ev = .iface T v)
theorem replay_form (es : List ByteArray) (v : Value) (w : World) (S : Nat → Prop) (E : Er → Value) (N K : Value) (m : Int) (hG : EvG w.heap.size E N K m w) (hr : Reads w S (.list 1 (es.map strDt)) [v]) (hsum : (es.map ByteArray.size).sum ≤ 10000) :
  Calls Tryz.prog 16 #[v] w (RetRp w) := by
 obtain ⟨T, u, hE⟩ := hG.glo.errs.form .bound
 refine (replay_any es v w S E N K m hG hr hsum).mono ?_
 rintro en w' ⟨hc, hm⟩
 refine ⟨hc, ?_⟩
 cases h : replayF es with
 | ok l nx =>
  rw [h] at hm
  obtain ⟨v, F, rfl, hT, -⟩ := hm
  rcases hT with ⟨-, rfl, -⟩ | ⟨b, cap, cur, F', rfl, -⟩
  ·exact ⟨_, _, _, _, _, _, _, _, _, rfl, .inl rfl⟩
  ·exact ⟨_, _, _, _, _, _, _, _, _, rfl, .inl rfl⟩
 | bad i e =>
  rw [h] at hm
  obtain ⟨fv, rfl, p, rfl, -⟩ := hm
  exact ⟨_, _, _, _, _, _, _, _, _, rfl, .inr ⟨_, _, rfl⟩⟩
 | many =>
  rw [h, hE] at hm
  obtain rfl := hm
  exact ⟨_, _, _, _, _, _, _, _, _, rfl, .inr ⟨_, _, rfl⟩⟩
def RetOp (A : Nat → Addr) (w : World) (en : Ending) (w' : World) : Prop :=
 Chg NoB w w' ∧ ((∃ b, en = .returned (.tuple #[.pointer (some ⟨b, 0, none⟩), .nilIface])) ∨ en = .returned (.tuple #[.pointer none, sv (A 5)]) ∨ en = .returned (.tuple #[.pointer none, sv (A 0)]))
def RetRf (A : Nat → Addr) (w : World) (en : Ending) (w' : World) : Prop :=
 Chg NoB w w' ∧ ∃ (t : ByteArray) (ev : Value), en = .returned (.tuple #[.string t, ev]) ∧ (ev = .nilIface ∨ ev = sv (A 4))
theorem open_none (db mb n : Nat) (D : DataW Value) (w : World) (steps used : Int) (A : Nat → Addr) (hS : Sents w A) (hd : Blk w db (dkCells steps used mb) 46) (hm : FM w mb n D) (hno : Maps.has D (kL rootBs) = false) :
  Calls Tryz.prog 6 #[.pointer (some ⟨db, 0, none⟩)] w (fun en w' => en = .returned (.tuple #[.pointer none, sv (A 5)]) ∧ Chg NoB w w') := by
 have Hr := Lib.hid (readD_miss db mb n D rootBs w steps used A hd hm (by decide) hno hS)
 have HS := Lib.hid (fun (w' : World) (hc : Chg NoB w w') => (hS.keep0 hc).cell 5 1 rfl)
 clear hd hm hno
 go_enter Tryz.func6, Tryz.ntmps6
 go_wp2_with fail
 refine Hr.out.mono ?_
 rintro en w1 ⟨rfl, hc1⟩
 have g5 := HS.out w1 hc1
 simp only [sv] at g5 ⊢
 go_wp2_with fail
 go_quiet (fail)
 go_wp2_with fail
 go_ret2
 exact ⟨rfl, hc1.drewN _⟩
def OpRel (ks : List ByteArray) (w7 : World) (vi : Value) (wr : World) : Prop := ∃ i : Nat, i ≤ ks.length ∧ vi = .int .i64 (i : Nat) ∧ Chg NoB w7 wr
theorem open_root (db : Nat) (l : List UInt8) (w : World) (A : Nat → Addr) (E : Er → Value) (N K : Value) (m : Int) (hG : EvG w.heap.size E N K m w) (hS : Sents w A) (hW : Lib.WhiteTab 10 w) (hl : l.length ≤ 1000)
  (hrd : ∀ w', Chg NoB w w' → Calls Tryz.prog 14 #[.pointer (some ⟨db, 0, none⟩), .string rootBs] w' (fun en w'' => en = .returned (.tuple #[.string ⟨l.toArray⟩, .nilIface]) ∧ Chg NoB w' w''))
  (hrf : ∀ w' (t : ByteArray), Chg NoB w w' → t.size ≤ 1000 → Calls Tryz.prog 14 #[.pointer (some ⟨db, 0, none⟩), .string t] w' (RetRf A w')) :
  Calls Tryz.prog 6 #[.pointer (some ⟨db, 0, none⟩)] w (RetOp A w) := by
 have Hrd := Lib.hid (hrd w (Chg.refl _ _))
 have Hrf := Lib.hid hrf
 have HT := Lib.hid (fun (w' : World) (hc : Chg NoB w w') => (hS.keep0 hc).cell 0 2 rfl)
 have Hread := Lib.hid (fun (w' : World) (hc : Chg NoB w w') => readT_any l w' A (hS.keep0 hc) (tab_ascii hG.asc hc) (white_keep hW hc) hl)
 have HG := Lib.hid (fun (w' : World) (hc : Chg NoB w w') => (hG.keep0 hc).up hc.size)
 clear hrd hrf hW hG hS
 go_enter Tryz.func6, Tryz.ntmps6
 go_wp2_with fail
 refine Hrd.out.mono ?_
 rintro en w1 ⟨rfl, hc1⟩
 go_wp2_with fail
 refine (Hread.out w1 hc1).mono ?_
 rintro en w2 ⟨hc2, ok, Es, Ss, ve, vs, nx, rfl, hre, hrs, hsum, hSl, hrow⟩
 have hc02 := hc1.tr hc2
 obtain ⟨ea, ec, hef, -, -, -⟩ := reads_list hre
 obtain ⟨sa, sc, hsf, -, -, -⟩ := reads_list hrs
 rw [List.length_map] at hef hsf
 subst hef hsf
 have Hrow := Lib.hid hrow
 clear hrow Hrd Hread
 go_upto_region 5 with fail
 generalize hw3 : World.alloc _ _ = w3
 have hc3 : Chg NoB w2 w3 := by
  rw [← hw3]
  repeat (first | exact Chg.refl _ _ | apply Chg.alloc | apply Chg.drew)
 have hb3 : Blk w3 (w2.heap.size) ([.slice ea Es.length ec, .slice sa Ss.length sc, .int .i64 nx]) 51 := by
  rw [← hw3]
  repeat (first | exact Blk.newAt (by first | rfl | (simp; done) | (simp; omega)) | apply Blk.alloc | apply Blk.drew)
 clear hw3
 have hc03 := hc02.tr hc3
 have hre3 := hre.chg0 hc3
 have hrs3 := hrs.chg0 hc3
 have c0 : w3.cell? ⟨w2.heap.size, 0, none⟩ = some (.slice ea Es.length ec) := hb3.cell 0
 clear hre hrs
 go_wp2_with fail
 refine (replay_form Es _ w3 _ E N K m (HG.out w3 hc03) hre3 (by omega)).mono ?_
 rintro en w4 ⟨hc4, i, r, k, nx2, nm, a, ln, cp, ev, rfl, hev⟩
 have hb4 := hb3.keep hc4 nbE
 have hc04 := hc03.tr hc4
 have hrs4 := hrs3.chg0 hc4
 clear c0 hre3 hrs3 hb3
 go_upto_region 6 with fail
 generalize hw5 : World.alloc _ _ = w5
 have hc5 : Chg NoB w4 w5 := by
  rw [← hw5]
  repeat (first | exact Chg.refl _ _ | apply Chg.alloc | apply Chg.drew)
 have hx5 : Blk w5 (w4.heap.size) ([.int .i64 i, .string nm, .int .i64 r, .int .i64 k, .slice a ln cp]) 56 := by
  rw [← hw5]
  repeat (first | exact Blk.newAt (by first | rfl | (simp; done) | (simp; omega)) | apply Blk.alloc | apply Blk.drew)
 clear hw5
 have hb5 := hb4.keep hc5 nbE
 have hc05 := hc04.tr hc5
 have hrs5 := hrs4.chg0 hc5
 clear hb4 hrs4
 have gT := HT.out w5 hc05
 simp only [sv] at gT
 cases ok with
 | false =>
  clear hev
  go_wp2_with fail
  go_quiet (fail)
  go_wp2_with fail
  go_ret2
  exact ⟨hc05.drewN _, .inr (.inr rfl)⟩
 | true =>
  rcases hev with rfl | ⟨T, u, rfl⟩
  ·have c0 : w5.cell? ⟨w2.heap.size, 0, none⟩ = some (.slice ea Es.length ec) := hb5.cell 0
   have c1 : w5.cell? ⟨w2.heap.size, 1, none⟩ = some (.slice sa Ss.length sc) := hb5.cell 1
   have c2 : w5.cell? ⟨w2.heap.size, 2, none⟩ = some (.int .i64 nx) := hb5.cell 2
   have x0 : w5.cell? ⟨w4.heap.size, 0, none⟩ = some (.int .i64 i) := hx5.cell 0
   have x1 : w5.cell? ⟨w4.heap.size, 1, none⟩ = some (.string nm) := hx5.cell 1
   have x2 : w5.cell? ⟨w4.heap.size, 2, none⟩ = some (.int .i64 r) := hx5.cell 2
   have x3 : w5.cell? ⟨w4.heap.size, 3, none⟩ = some (.int .i64 k) := hx5.cell 3
   have x4 : w5.cell? ⟨w4.heap.size, 4, none⟩ = some (.slice a ln cp) := hx5.cell 4
   go_upto_region 9 with fail
   generalize hw6 : World.alloc _ _ = w6
   have hc6 : Chg NoB w5 w6 := by
    rw [← hw6]
    repeat (first | exact Chg.refl _ _ | apply Chg.alloc | apply Chg.drew)
   have ht6 : Blk w6 (w5.heap.size) ([.slice ea Es.length ec, .slice sa Ss.length sc, .int .i64 nx, .pointer (some ⟨db, 0, none⟩), .int .i64 i, .string nm, .int .i64 r, .int .i64 k, .slice a ln cp, .bool false]) 60 := by
    rw [← hw6]
    repeat (first | exact Blk.newAt (by first | rfl | (simp; done) | (simp; omega)) | apply Blk.alloc | apply Blk.drew)
   clear hw6 c0 c1 c2 x0 x1 x2 x3 x4
   have hc06 := hc05.tr hc6
   have hrs6 := hrs5.chg0 hc6
   have t0 : w6.cell? ⟨w5.heap.size, 0, none⟩ = some (.slice ea Es.length ec) := ht6.cell 0
   have t1 : w6.cell? ⟨w5.heap.size, 1, none⟩ = some (.slice sa Ss.length sc) := ht6.cell 1
   have t2 : w6.cell? ⟨w5.heap.size, 2, none⟩ = some (.int .i64 nx) := ht6.cell 2
   go_wp2_with fail
   refine (neededA_any Ss ea Es.length ec _ nx _ w6 hrs6 (by omega) (fun y hy => ⟨by have := (Hrow.out y hy).1; omega, fun z hz => by have := (Hrow.out y hy).2 z hz; omega⟩)).mono ?_
   rintro en w7 ⟨hc7, ks, v, rfl, hrk, hkl, hks⟩
   have hc07 := hc06.tr hc7
   obtain ⟨ka, kc, rfl, -, -, hkc⟩ := list_cells (l := ks) (f := Value.string) hrk
   have Hkc := Lib.hid hkc
   have Hks := Lib.hid hks
   clear hkc hks hrk t0 t1 t2 hrs6 hrs5 ht6 hb5 hx5 gT
   go_wp2_with fail
   go_loopw [53] (OpRel ks w7) (fun vi _ => ks.length - (intOf vi).toNat)
   case atStart => exact ⟨0, Nat.zero_le _, rfl, Chg.refl _ _⟩
   case round =>
    obtain ⟨j, hj, rfl, hc⟩ := hrel
    have hc0r := hc07.tr hc
    by_cases hlt : j < ks.length
    ·have hltI : (j : Int) < (ks.length : Int) := by omega
     obtain ⟨b, off, rfl, -, hb, hcell⟩ := Hkc.out (by omega)
     obtain ⟨x, hx⟩ : ∃ x, ks[j]? = some x := ⟨_, List.getElem?_eq_getElem hlt⟩
     have hxc := (hc.cell (p := ⟨b, off + j, none⟩) hb nbE).trans (hcell j x hx)
     have hxs := Hks.out x (List.mem_of_getElem? hx)
     clear hcell hx
     go_wp2_with fail
     refine (Hrf.out wr x hc0r hxs).mono ?_
     rintro en w8 ⟨hc8, t, ev, rfl, hev⟩
     have hc08 := hc0r.tr hc8
     rcases hev with rfl | rfl
     ·go_wp2_with fail
      go_roundw
      case rel => exact ⟨j + 1, by omega, by go_num, hc.tr hc8⟩
      case measure => simp [intOf]; omega
     ·have gT := HT.out w8 hc08
      simp only [sv] at gT ⊢
      go_wp2_with fail
      go_quiet (fail)
      go_wp2_with fail
      go_ret2
      exact ⟨hc08.drewN _, .inr (.inr rfl)⟩
    ·have hltI : ¬ (j : Int) < (ks.length : Int) := by omega
     go_wp2_with fail
     go_ret2
     exact ⟨hc0r, .inl ⟨_, rfl⟩⟩
  ·go_wp2_with fail
   go_quiet (fail)
   go_wp2_with fail
   go_ret2
   exact ⟨hc05.drewN _, .inr (.inr rfl)⟩
end Go.Proofs.YtnmhkafpgohefaaGreatDoor
