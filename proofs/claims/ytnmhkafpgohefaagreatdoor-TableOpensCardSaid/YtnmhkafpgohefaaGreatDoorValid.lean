/-
  schema.Valid.
-/
import Derived.Test.YtnmhkafpgohefaaGreatDoorValid2
import Derived.Laws.EntriesVeiled
set_option linter.unusedVariables false
set_option maxHeartbeats 20000000
set_option maxRecDepth 100000
set_option linter.unusedSimpArgs false
namespace Go.Proofs.YtnmhkafpgohefaaGreatDoor
open Go.RowKit
inductive Er where
 | bound | text | shape | name
 deriving DecidableEq
def Er.g : Er → Nat
 | .bound => 0 | .text => 2 | .shape => 5 | .name => 3
structure Errs (w : World) (E : Er → Value) : Prop where
 cell : ∀ e : Er, w.cell? ⟨e.g, 0, none⟩ = some (E e)
 form : ∀ e, ∃ T v, E e = .iface T v
theorem lt_of_cell {w : World} {p : Addr} {v : Value} (h : w.cell? p = some v) : p.block < w.heap.size := by
 unfold World.cell? at h
 cases hb : w.heap[p.block]? with
 | none => rw [hb] at h; simp at h
 | some o => exact lt_of_block hb
theorem Errs.keep {C : Nat → Prop} {w w' : World} {E : Er → Value} (h : Errs w E) (hc : Chg C w w') (hC : ∀ b, b < w.heap.size → ¬ C b) : Errs w' E :=
 ⟨fun e => by
  have h1 := lt_of_cell (h.cell e)
  exact (hc.cell h1 (hC _ h1)).trans (h.cell e), h.form⟩
theorem Errs.keep0 {w w' : World} {E : Er → Value} (h : Errs w E) (hc : Chg NoB w w') : Errs w' E := h.keep hc (fun _ _ => nbE)
def errVal (E : Er → Value) : Option Er → Value
 | none => .nilIface
 | some e => E e
def RetEr (E : Er → Value) (r : Option Er) (w : World) (en : Ending) (w' : World) : Prop := en = .returned (errVal E r) ∧ Chg NoB w w'
theorem Chg.own0 {e c : Nat} {w w' : World} (h : Chg (RowsOf w e w.heap.size c) w w') : Chg NoB w w' := h.mono (fun i hi h2 => by have := h2.1; omega)
mutual
theorem v1_high : ∀ (n : Nd) (d s : Int), (walkF v1F n d s).1 = true → d + n.high ≤ 7
 | .mk i nm r k sb, d, s, h => by
  simp only [walkF] at h
  rcases hf : v1F (.mk i nm r k sb) d s with ⟨b, s'⟩
  rw [hf] at h
  cases b
  ·cases h
  ·simp only [v1F, Prod.mk.injEq, Bool.and_eq_true, decide_eq_true_eq] at hf
   have := v1_highs sb (d + 1) s' h
   simp only [Nd.high]
   rcases this with rfl | h2
   ·simp only [Nd.highs]; omega
   ·omega
theorem v1_highs : ∀ (l : List Nd) (d s : Int), (walkFs v1F l d s).1 = true → l = [] ∨ d + Nd.highs l ≤ 7
 | [], d, s, h => .inl rfl
 | n :: ns, d, s, h => by
  simp only [walkFs] at h
  rcases hf : walkF v1F n d s with ⟨b, s'⟩
  rw [hf] at h
  cases b
  ·cases h
  ·have h1 := v1_high n d s (by rw [hf])
   have h2 := v1_highs ns d s' h
   simp only [Nd.highs]
   refine .inr ?_
   rcases h2 with rfl | h2
   ·simp only [Nd.highs]; omega
   ·omega
end
def rootName : ByteArray := ⟨#[114, 111, 111, 116]⟩
def rootB (n : Nd) : Bool := decide (n.id = 0) && decide (n.name = rootName) && decide (n.rep = 1) && decide (n.kind = 0) && decide ((n.sub.length : Int) ≠ 0)
def validF (n : Nd) : Option Er :=
 if (walkF v1F n 1 0).1 = false then some .bound
 else if rootB n = false then some .shape
 else if (walkF (allF v3F) n 0 ()).1 = false then some .shape
 else if (walkF v4F n 0 ()).1 = false then some .name
 else if (walkF (allF v5F) n 0 []).1 = false then some .name
 else none
theorem valid_any (nd : Nd) (w : World) (S : Nat → Prop) (cs : List Value) (E : Er → Value) (hE : Errs w E) (hok : nd.ok) (hr : Reads w S nd.dt cs) (hSB : ∀ b, S b → b < w.heap.size) :
  Calls Tryz.prog 31 #[.agg cs.toArray] w (RetEr E (validF nd) w) := by
 obtain ⟨i, nm, r, k, sb⟩ := nd
 obtain ⟨sv, rfl, hs⟩ := reads_nd.1 hr
 obtain ⟨sa, cap, rfl, hlen, hcap, hel⟩ := reads_subs hs
 go_enter Tryz.func31, Tryz.ntmps31
 go_wp2_with fail
 generalize hw1 : (w.alloc _).alloc _ = w1
 have hc1 : Chg NoB w w1 := by
  rw [← hw1]
  repeat (first | exact Chg.refl _ _ | apply Chg.alloc | apply Chg.drew)
 have hb1 : Blk w1 (w.heap.size) (ndCells i nm r k (.slice sa sb.length cap)) 56 := by
  rw [← hw1]
  repeat (first | exact Blk.newAt (by first | rfl | (simp; done) | (simp; omega)) | apply Blk.alloc | apply Blk.drew)
 have hm1 : Blk w1 (w.heap.size + 1) ([.int .i64 0]) 3 := by
  rw [← hw1]
  repeat (first | exact Blk.newAt (by first | rfl | (simp; done) | (simp; omega)) | apply Blk.alloc | apply Blk.drew)
 clear hw1
 have hsz1 := hc1.size
 refine (walk_any (sees_v1 w.heap.size (w.heap.size + 1) (by omega)) (by decide) _ (.mk i nm r k sb) w1 S _ 1 0 (Nat.le_refl _) (by omega) (by omega) hok (hr.chg0 hc1) hSB hsz1 hm1).mono ?_
 rintro en w2 ⟨rfl, hm2, hc2⟩
 have hb2 := hb1.rows hc2 (by omega) (by decide)
 replace hc2 := (hc1.rows0 hc2).own0
 have hsz2 := hc2.size
 have hE2 := hE.keep0 hc2
 have g1 := hE2.cell .bound
 have g2 := hE2.cell .shape
 simp only [Er.g] at g1 g2
 rcases hw : walkF v1F (.mk i nm r k sb) 1 0 with ⟨b, st⟩
 rw [hw] at hm2
 have hhigh := v1_high (.mk i nm r k sb) 1 0
 have hv1 : validF (.mk i nm r k sb) = if b = false then some .bound else validF (.mk i nm r k sb) := by
  cases b
  ·simp [validF, hw]
  ·rfl
 rw [hw] at hhigh
 have Hw := Lib.hid hw
 have Hv1 := Lib.hid hv1
 clear hw hv1
 cases b
 ·go_wp2_with fail
  go_ret
  rw [Hv1.out]
  exact ⟨rfl, hc2⟩
 ·replace hhigh := hhigh rfl
  have c0 : w2.cell? ⟨w.heap.size, 0, none⟩ = some (.int .i64 (i)) := hb2.cell 0
  have c1 : w2.cell? ⟨w.heap.size, 1, none⟩ = some (.string nm) := hb2.cell 1
  have c2 : w2.cell? ⟨w.heap.size, 2, none⟩ = some (.int .i64 (r)) := hb2.cell 2
  have c3 : w2.cell? ⟨w.heap.size, 3, none⟩ = some (.int .i64 (k)) := hb2.cell 3
  have c4 : w2.cell? ⟨w.heap.size, 4, none⟩ = some (.slice sa sb.length cap) := hb2.cell 4
  have hlt2 := hb2.lt
  have hg2 := lt_of_cell g2
  have hsh : rootB (.mk i nm r k sb) = (decide (i = 0) && decide (nm = rootName) && decide (r = 1) && decide (k = 0) && decide ((sb.length : Int) ≠ 0)) := rfl
  by_cases hrt : rootB (.mk i nm r k sb) = true
  ·rw [hsh] at hrt
   simp only [Bool.and_eq_true, decide_eq_true_eq] at hrt
   obtain ⟨⟨⟨⟨rfl, rfl⟩, rfl⟩, rfl⟩, hne⟩ := hrt
   have hne' : ((sb.length : Int) == 0) = false := by simpa using hne
   unfold rootName at *
   go_wp2_with fail
   generalize hw3 : w2.alloc _ = w3
   have hc3 : Chg NoB w2 w3 := by
    rw [← hw3]
    repeat (first | exact Chg.refl _ _ | apply Chg.alloc | apply Chg.drew)
   have hl3 : Blk w3 (w2.heap.size) ([.func (.func 60) #[] #[]]) 124 := by
    rw [← hw3]
    repeat (first | exact Blk.newAt (by first | rfl | (simp; done) | (simp; omega)) | apply Blk.alloc | apply Blk.drew)
   clear hw3
   have hrt : rootB (.mk 0 ⟨#[114, 111, 111, 116]⟩ 1 0 sb) = true := by
    rw [hsh]; simp only [ne_eq, hne, not_false_iff, decide_true, Bool.and_self]
   have hc03 := hc2.tr hc3
   have hsz3 := hc03.size
   have hr3 := hr.chg0 hc03
   refine (all_any (oks_v3 w.heap.size w2.heap.size hsz2) (by decide) (by decide) (.mk 0 ⟨#[114, 111, 111, 116]⟩ 1 0 sb) w3 S _ () (by omega) trivial hok hr3 hSB hsz3 hl3).mono ?_
   rintro en w4 ⟨rfl, hl4, hc4⟩
   replace hb2 := (hb2.keep hc3 nbE).rows hc4 (by omega) (by decide)
   replace hc4 : Chg NoB w w4 := by
    refine (hc03.mono (fun _ _ e => nbE e)).trans hc4 ?_
    intro b hb
    exact .inr hb.1
   have hsz4 := hc4.size
   have hE4 := hE.keep0 hc4
   have k1 := hE4.cell .shape
   have k2 := hE4.cell .name
   simp only [Er.g] at k1 k2
   have hb4 := hb2.lt
   have l4 : w4.cell? ⟨w.heap.size, 4, none⟩ = some (.slice sa sb.length cap) := hb2.cell 4
   have l0 : w4.cell? ⟨w.heap.size, 0, none⟩ = some (.int .i64 0) := hb2.cell 0
   have l1 : w4.cell? ⟨w.heap.size, 1, none⟩ = some (.string ⟨#[114, 111, 111, 116]⟩) := hb2.cell 1
   have l2 : w4.cell? ⟨w.heap.size, 2, none⟩ = some (.int .i64 1) := hb2.cell 2
   have l3 : w4.cell? ⟨w.heap.size, 3, none⟩ = some (.int .i64 0) := hb2.cell 3
   rcases hw3 : (walkF (allF v3F) (.mk 0 ⟨#[114, 111, 111, 116]⟩ 1 0 sb) 0 ()).1 with _ | _
   ·have hv2 : validF (.mk 0 ⟨#[114, 111, 111, 116]⟩ 1 0 sb) = some .shape := by
     unfold validF
     rw [Hw.out, if_neg (by simp), if_neg (by rw [hrt]; simp), if_pos hw3]
    have Hv2 := Lib.hid hv2
    clear hrt hsh hv2 hw3
    go_wp2_with fail
    go_ret
    rw [Hv2.out]
    exact ⟨rfl, hc4⟩
   have hv2 : validF (.mk 0 ⟨#[114, 111, 111, 116]⟩ 1 0 sb) = if (walkF v4F (.mk 0 ⟨#[114, 111, 111, 116]⟩ 1 0 sb) 0 ()).1 = false then some .name else if (walkF (allF v5F) (.mk 0 ⟨#[114, 111, 111, 116]⟩ 1 0 sb) 0 []).1 = false then some .name else none := by
    unfold validF
    rw [Hw.out, if_neg (by simp), if_neg (by rw [hrt]; simp), if_neg (by rw [hw3]; simp)]
   have Hv2 := Lib.hid hv2
   clear hrt hsh hv2 hw3
   have hr4 := hr.chg0 hc4
   go_wp2_with fail
   refine (walk_any (sees_v4 w.heap.size w2.heap.size) (by decide) _ (.mk 0 ⟨#[114, 111, 111, 116]⟩ 1 0 sb) w4 S _ 0 () (Nat.le_refl _) ⟨by omega, by omega⟩ trivial hok hr4 hSB hsz4 hl4.lt).mono ?_
   rintro en w5 ⟨rfl, hl5, hc5⟩
   have hb5 := hb2.rows hc5 (by omega) (by decide)
   replace hc5 : Chg NoB w w5 := by
    refine (hc4.mono (fun _ _ e => nbE e)).trans hc5 ?_
    intro b hb
    exact .inr hb.1
   have hsz5 := hc5.size
   have hE5 := hE.keep0 hc5
   have m2 := hE5.cell .name
   simp only [Er.g] at m2
   have hlt5 := hb5.lt
   have p4 : w5.cell? ⟨w.heap.size, 4, none⟩ = some (.slice sa sb.length cap) := hb5.cell 4
   have p0 : w5.cell? ⟨w.heap.size, 0, none⟩ = some (.int .i64 0) := hb5.cell 0
   have p1 : w5.cell? ⟨w.heap.size, 1, none⟩ = some (.string ⟨#[114, 111, 111, 116]⟩) := hb5.cell 1
   have p2 : w5.cell? ⟨w.heap.size, 2, none⟩ = some (.int .i64 1) := hb5.cell 2
   have p3 : w5.cell? ⟨w.heap.size, 3, none⟩ = some (.int .i64 0) := hb5.cell 3
   rcases hw5 : (walkF v4F (.mk 0 ⟨#[114, 111, 111, 116]⟩ 1 0 sb) 0 ()).1 with _ | _
   ·have hv3 := Hv2.out
    rw [if_pos hw5] at hv3
    have Hv3 := Lib.hid hv3
    clear hv3 hw5
    go_wp2_with fail
    go_ret
    rw [Hv3.out]
    exact ⟨rfl, hc5⟩
   have hv3 := Hv2.out
   rw [if_neg (by rw [hw5]; simp)] at hv3
   have Hv3 := Lib.hid hv3
   clear hv3 hw5
   go_wp2_with fail
   generalize hw6 : w5.alloc _ = w6
   have hc6 : Chg NoB w5 w6 := by
    rw [← hw6]
    repeat (first | exact Chg.refl _ _ | apply Chg.alloc | apply Chg.drew)
   have hl6 : Blk w6 (w5.heap.size) ([.slice none 0 0]) 131 := by
    rw [← hw6]
    repeat (first | exact Blk.newAt (by first | rfl | (simp; done) | (simp; omega)) | apply Blk.alloc | apply Blk.drew)
   clear hw6
   have hc06 := hc5.tr hc6
   have hsz6 := hc06.size
   refine (all_any (oks_v5 w.heap.size w5.heap.size hsz5) (by decide) (by decide) (.mk 0 ⟨#[114, 111, 111, 116]⟩ 1 0 sb) w6 S _ [] (by omega) ⟨List.nodup_nil, fun x hx => by cases hx⟩ hok (hr.chg0 hc06) hSB hsz6 ⟨_, hl6, Own.nil _ _ _ _ _, fun e => by cases e⟩).mono ?_
   rintro en w7 ⟨rfl, _, hc7⟩
   replace hc7 : Chg NoB w w7 := by
    refine (hc06.mono (fun _ _ e => nbE e)).trans hc7 ?_
    intro b hb
    exact .inr hb.1
   have hE7 := hE.keep0 hc7
   have n2 := hE7.cell .name
   simp only [Er.g] at n2
   have hv4 := Hv3.out
   rcases hw7 : (walkF (allF v5F) (.mk 0 ⟨#[114, 111, 111, 116]⟩ 1 0 sb) 0 []).1 with _ | _
   ·rw [if_pos hw7] at hv4
    have Hv4 := Lib.hid hv4
    clear hv4 hw7
    go_wp2_with fail
    go_ret
    rw [Hv4.out]
    exact ⟨rfl, hc7⟩
   ·rw [if_neg (by rw [hw7]; simp)] at hv4
    have Hv4 := Lib.hid hv4
    clear hv4 hw7
    go_wp2_with fail
    go_ret
    rw [Hv4.out]
    exact ⟨rfl, hc7⟩
  ·have hno : ¬ (i = 0 ∧ nm.toList = [114, 111, 111, 116] ∧ r = 1 ∧ k = 0 ∧ ((sb.length : Int) == 0) = false) := by
    rintro ⟨rfl, h2, rfl, rfl, h5⟩
    apply hrt
    have h3 : nm = rootName := by
     rw [Lib.toList_data] at h2
     obtain ⟨d⟩ := nm
     show ByteArray.mk d = ByteArray.mk _
     congr
     exact Array.toList_inj.1 h2
    rw [hsh, h3]
    have h6 : (sb.length : Int) ≠ 0 := by simpa using h5
    simp only [decide_true, Bool.true_and, h6, ne_eq, not_false_iff]
   have hrf : rootB (.mk i nm r k sb) = false := by simpa using hrt
   have hv2 : validF (.mk i nm r k sb) = some .shape := by
    unfold validF
    rw [Hw.out, if_neg (by simp), if_pos hrf]
   have Hv2 := Lib.hid hv2
   have Hno := Lib.hid hno
   clear hrt hsh hrf hv2 hno
   go_wp2_with fail
   all_goals first
    | (go_ret; rw [Hv2.out]; exact ⟨rfl, hc2.alloc _⟩)
    | exact absurd ⟨by assumption, by assumption, by assumption, by assumption, by assumption⟩ Hno.out
end Go.Proofs.YtnmhkafpgohefaaGreatDoor
