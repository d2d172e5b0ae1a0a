/-
 EvolveCarries: the walk, by the contracts.
-/
import Derived.Test.YtgcmfpcgmkkobaaGreatDoorFirst
import Derived.Test.YtgcmfpcgmkkobaaGreatDoorPackN
import Derived.Test.YtgcmfpcgmkkobaaGreatDoorPackJ
import Derived.Test.YtgcmfpcgmkkobaaGreatDoorPackA
import Derived.Test.YtgcmfpcgmkkobaaGreatDoorPackF
import Derived.Test.YtgcmfpcgmkkobaaGreatDoorSameOf
import Derived.Test.YtgcmfpcgmkkobaaGreatDoorCarry
import Derived.Test.YtgcmfpcgmkkobaaGreatDoorCarryOf
import Derived.Test.YtgcmfpcgmkkobaaGreatDoorPackL
import Derived.Test.YtgcmfpcgmkkobaaGreatDoorPackI
set_option linter.unusedVariables false
set_option linter.unusedSimpArgs false
namespace Go.Proofs.YtgcmfpcgmkkobaaGreatDoor
open Go.RowKit

theorem Chg.keeps {w w' : World} (h : Chg NoB w w') : ∀ p v, w.cell? p = some v → w'.cell? p = some v := fun p v hv => (h.cell (lt_of_cell hv) NoB.elim).trans hv
theorem Chg.keepsOne {w w' : World} {b : Nat} (h : Chg (OneB b) w w') : ∀ p v, p.block ≠ b → w.cell? p = some v → w'.cell? p = some v := fun p v hne hv => (h.cell (lt_of_cell hv) hne).trans hv
/-- What the law's e is ahead of SameOf. -/
def preF (a b : Nd) (d : Dm) : Option Ek :=
 match recF a d with
 | some r => some r
 | none => (validF b).map .er
theorem carry_pre {a b : Nd} {d : Dm} {r : Ek} (h : preF a b d = some r) : carryF a b d = (some r, zeroDm) := by
 unfold preF at h
 unfold carryF
 cases hr : recF a d with
 | some e => rw [hr] at h; obtain rfl := Option.some.inj h; rfl
 | none =>
  rw [hr] at h
  cases hv : validF b with
  | some e => rw [hv] at h; obtain rfl := Option.some.inj h; rfl
  | none => rw [hv] at h; cases h
def noF (a b : Nd) (d : Dm) : Bool :=
 match preF a b d with
 | some _ => false
 | none => !sameF (knOf a) (knOf b)
theorem noF_some {a b : Nd} {d : Dm} {r : Ek} (h : preF a b d = some r) : noF a b d = false := by unfold noF; rw [h]
theorem noF_none {a b : Nd} {d : Dm} (h : preF a b d = none) : noF a b d = !sameF (knOf a) (knOf b) := by unfold noF; rw [h]
theorem pre_none {a b : Nd} {d : Dm} (h : preF a b d = none) : recF a d = none ∧ validF b = none := by
 unfold preF at h
 cases hr : recF a d with
 | some e => rw [hr] at h; cases h
 | none =>
  rw [hr] at h
  cases hv : validF b with
  | some e => rw [hv] at h; cases h
  | none => exact ⟨rfl, rfl⟩
theorem told_keep0 {w w' : World} {A : Nat → Addr} {v : Value} {n at' : Int} (h : Told w A v n at') (hc : Chg NoB w w') : Told w' A v n at' := by
 cases h with
 | nil => exact .nil
 | sent i hi => exact .sent i hi
 | fault p i _ hi h0 h1 hb => exact .fault p i _ hi ((hc.cell (lt_of_block' h0) NoB.elim).trans h0) ((hc.cell (lt_of_block' h1) NoB.elim).trans h1) hb
theorem Named.toldK {w : World} {A : Nat → Addr} {E : Er → Value} {N : Value} (h : Named w A E N) (r : Ek) : Told w A (ekVal E (sv (A 3)) (some r)) (ekNum (some r)) (-1) := by
 cases r with
 | er e => exact h.told e
 | kind => exact Told.sent 3 (by omega)
theorem Named.eks {w : World} {A : Nat → Addr} {E : Er → Value} {N : Value} (h : Named w A E N) (hE : Errs w E) : Eks w E (sv (A 3)) := ⟨hE, h.sents.cell 3 _ rfl, _, _, rfl⟩
def RetCarry2 (E : Er → Value) (K : Value) (r : Option Ek) (x : Dm) (w : World) (e : Ending) (w' : World) : Prop :=
 ∃ cs, e = .returned (.tuple #[.agg cs.toArray, ekVal E K r]) ∧ Reads w' (fun b => w.heap.size ≤ b) x.dt cs ∧ Chg NoB w w'
theorem carry_to {a b : Nd} {d : Dm} {r : Option Ek} {x : Dm} (hx : carryF a b d = (r, x)) (w : World) (S : Nat → Prop) (ca cb cd : List Value) (E : Er → Value) (K : Value) (hE : Eks w E K) (hoka : a.ok) (hokb : b.ok) (hokd : d.ok) (hra : Reads w S a.dt ca) (hrb : Reads w S b.dt cb) (hrd : Reads w S d.dt cd) (hSB : ∀ b, S b → b < w.heap.size) :
  Calls Tryz.prog 19 #[.agg ca.toArray, .agg cb.toArray, .agg cd.toArray] w (RetCarry2 E K r x w) := by
 have h := carry_any a b d w S ca cb cd E K hE hoka hokb hokd hra hrb hrd hSB
 rw [hx] at h
 exact h

set_option maxHeartbeats 4000000 in
set_option maxRecDepth 100000 in
theorem carries_any (a b : Nd) (d : Dm) (m : Int) (w : World) (S : Nat → Prop) (ca cb cd : List Value) (A : Nat → Addr) (E : Er → Value) (N : Value) (hG : Glo w.heap.size E w) (hm : w.cell? ⟨11, 0, none⟩ = some (.int .i64 m))
  (htab : Lib.TabIs Tryz.prog w "strings.asciiSpace" .u8 Lib.asciiSpaceTab) (hA : Named w A E N) (hoka : a.ok) (hokb : b.ok) (hokd : d.ok) (hra : Reads w S a.dt ca) (hrb : Reads w S b.dt cb) (hrd : Reads w S d.dt cd) (hSB : ∀ x, S x → x < w.heap.size) :
  Calls Tryz.prog 7 #[.agg ca.toArray, .agg cb.toArray, .agg cd.toArray] w (RetV (.bool true) w) := by
 have hml := lt_of_cell hm
 have hE : Eks w E (sv (A 3)) := hA.eks hG.errs
 have Hra := Lib.hid hra
 have Hrb := Lib.hid hrb
 have Hrd := Lib.hid hrd
 have Hoka := Lib.hid hoka
 have Hokb := Lib.hid hokb
 have Hokd := Lib.hid hokd
 clear hoka hokb hokd
 obtain ⟨i, nm, rp, kd, sa⟩ := a
 obtain ⟨i', nm', rp', kd', sb⟩ := b
 obtain ⟨no, k, v, s, l, f⟩ := d
 obtain ⟨va, rfl, hsa⟩ := reads_nd.1 hra
 obtain ⟨vb, rfl, hsb⟩ := reads_nd.1 hrb
 obtain ⟨vl, vf, rfl, hsl, hsf⟩ := reads_dm.1 hrd
 obtain ⟨aa, ac, rfl, _, _, _⟩ := reads_subs hsa
 obtain ⟨ba, bc, rfl, _, _, _⟩ := reads_subs hsb
 obtain ⟨al, cl, rfl, _, _, _⟩ := reads_data hsl
 obtain ⟨af, cf, rfl, _, _, _⟩ := reads_data hsf
 clear hsa hsb hsl hsf hra hrb hrd
 go_enter Tryz.func7, Tryz.ntmps7
 go_wp2_with fail
 generalize hw1 : World.alloc _ _ = w1
 have hc1 : Chg NoB w w1 := by
  rw [← hw1]
  repeat (first | exact Chg.refl _ _ | apply Chg.alloc | apply Chg.drew)
 have hx : Blk w1 (w.heap.size) (ndCells i nm rp kd (.slice aa sa.length ac)) 28 := by
  rw [← hw1]
  repeat (first | exact Blk.newAt (by first | rfl | (simp; done) | (simp; omega)) | apply Blk.alloc | apply Blk.drew)
 have hy : Blk w1 (w.heap.size + 1) (ndCells i' nm' rp' kd' (.slice ba sb.length bc)) 28 := by
  rw [← hw1]
  repeat (first | exact Blk.newAt (by first | rfl | (simp; done) | (simp; omega)) | apply Blk.alloc | apply Blk.drew)
 have hz : Blk w1 (w.heap.size + 2) (dmCells no k v s (.slice al l.length cl) (.slice af f.length cf)) 43 := by
  rw [← hw1]
  repeat (first | exact Blk.newAt (by first | rfl | (simp; done) | (simp; omega)) | apply Blk.alloc | apply Blk.drew)
 clear hw1
 refine (first_yes m w1 E ((hG.keep0 hc1).up hc1.size) ((hc1.cell hml NoB.elim).trans hm) (tab_ascii htab hc1)).mono ?_
 rintro en w2 ⟨rfl, hc2⟩
 have hck := hc1.tr hc2
 replace hx := hx.keep hc2 NoB.elim
 replace hy := hy.keep hc2 NoB.elim
 replace hz := hz.keep hc2 NoB.elim
 (try clear x0 x1 x2 x3 x4 y0 y1 y2 y3 y4 z0 z1 z2 z3 z4 z5)
 have x0 : w2.cell? ⟨w.heap.size, 0, none⟩ = some (.int .i64 (i)) := hx.cell 0
 have x1 : w2.cell? ⟨w.heap.size, 1, none⟩ = some (.string nm) := hx.cell 1
 have x2 : w2.cell? ⟨w.heap.size, 2, none⟩ = some (.int .i64 (rp)) := hx.cell 2
 have x3 : w2.cell? ⟨w.heap.size, 3, none⟩ = some (.int .i64 (kd)) := hx.cell 3
 have x4 : w2.cell? ⟨w.heap.size, 4, none⟩ = some (.slice aa sa.length ac) := hx.cell 4
 have y0 : w2.cell? ⟨w.heap.size + 1, 0, none⟩ = some (.int .i64 (i')) := hy.cell 0
 have y1 : w2.cell? ⟨w.heap.size + 1, 1, none⟩ = some (.string nm') := hy.cell 1
 have y2 : w2.cell? ⟨w.heap.size + 1, 2, none⟩ = some (.int .i64 (rp')) := hy.cell 2
 have y3 : w2.cell? ⟨w.heap.size + 1, 3, none⟩ = some (.int .i64 (kd')) := hy.cell 3
 have y4 : w2.cell? ⟨w.heap.size + 1, 4, none⟩ = some (.slice ba sb.length bc) := hy.cell 4
 have z0 : w2.cell? ⟨w.heap.size + 2, 0, none⟩ = some (.bool no) := hz.cell 0
 have z1 : w2.cell? ⟨w.heap.size + 2, 1, none⟩ = some (.int .i64 (k)) := hz.cell 1
 have z2 : w2.cell? ⟨w.heap.size + 2, 2, none⟩ = some (.int .i64 (v)) := hz.cell 2
 have z3 : w2.cell? ⟨w.heap.size + 2, 3, none⟩ = some (.string s) := hz.cell 3
 have z4 : w2.cell? ⟨w.heap.size + 2, 4, none⟩ = some (.slice al l.length cl) := hz.cell 4
 have z5 : w2.cell? ⟨w.heap.size + 2, 5, none⟩ = some (.slice af f.length cf) := hz.cell 5
 go_wp2_with fail
 refine (tame4_any _ w2 S _ (Hra.out.chg0 hck) Hoka.out).mono ?_
 rintro en w3 ⟨rfl, hc3⟩
 replace hck := hck.tr hc3
 replace hx := hx.keep hc3 NoB.elim
 replace hy := hy.keep hc3 NoB.elim
 replace hz := hz.keep hc3 NoB.elim
 (try clear x0 x1 x2 x3 x4 y0 y1 y2 y3 y4 z0 z1 z2 z3 z4 z5)
 have x0 : w3.cell? ⟨w.heap.size, 0, none⟩ = some (.int .i64 (i)) := hx.cell 0
 have x1 : w3.cell? ⟨w.heap.size, 1, none⟩ = some (.string nm) := hx.cell 1
 have x2 : w3.cell? ⟨w.heap.size, 2, none⟩ = some (.int .i64 (rp)) := hx.cell 2
 have x3 : w3.cell? ⟨w.heap.size, 3, none⟩ = some (.int .i64 (kd)) := hx.cell 3
 have x4 : w3.cell? ⟨w.heap.size, 4, none⟩ = some (.slice aa sa.length ac) := hx.cell 4
 have y0 : w3.cell? ⟨w.heap.size + 1, 0, none⟩ = some (.int .i64 (i')) := hy.cell 0
 have y1 : w3.cell? ⟨w.heap.size + 1, 1, none⟩ = some (.string nm') := hy.cell 1
 have y2 : w3.cell? ⟨w.heap.size + 1, 2, none⟩ = some (.int .i64 (rp')) := hy.cell 2
 have y3 : w3.cell? ⟨w.heap.size + 1, 3, none⟩ = some (.int .i64 (kd')) := hy.cell 3
 have y4 : w3.cell? ⟨w.heap.size + 1, 4, none⟩ = some (.slice ba sb.length bc) := hy.cell 4
 have z0 : w3.cell? ⟨w.heap.size + 2, 0, none⟩ = some (.bool no) := hz.cell 0
 have z1 : w3.cell? ⟨w.heap.size + 2, 1, none⟩ = some (.int .i64 (k)) := hz.cell 1
 have z2 : w3.cell? ⟨w.heap.size + 2, 2, none⟩ = some (.int .i64 (v)) := hz.cell 2
 have z3 : w3.cell? ⟨w.heap.size + 2, 3, none⟩ = some (.string s) := hz.cell 3
 have z4 : w3.cell? ⟨w.heap.size + 2, 4, none⟩ = some (.slice al l.length cl) := hz.cell 4
 have z5 : w3.cell? ⟨w.heap.size + 2, 5, none⟩ = some (.slice af f.length cf) := hz.cell 5
 cases hta : tame4B (.mk i nm rp kd sa) with
 | false =>
  clear hta
  go_wp2_with fail
  go_ret
  exact ⟨rfl, hck⟩
 | true =>
 clear hta
 go_wp2_with fail
 refine (tame4_any _ w3 S _ (Hrb.out.chg0 hck) Hokb.out).mono ?_
 rintro en w4 ⟨rfl, hc4⟩
 replace hck := hck.tr hc4
 replace hx := hx.keep hc4 NoB.elim
 replace hy := hy.keep hc4 NoB.elim
 replace hz := hz.keep hc4 NoB.elim
 (try clear x0 x1 x2 x3 x4 y0 y1 y2 y3 y4 z0 z1 z2 z3 z4 z5)
 have x0 : w4.cell? ⟨w.heap.size, 0, none⟩ = some (.int .i64 (i)) := hx.cell 0
 have x1 : w4.cell? ⟨w.heap.size, 1, none⟩ = some (.string nm) := hx.cell 1
 have x2 : w4.cell? ⟨w.heap.size, 2, none⟩ = some (.int .i64 (rp)) := hx.cell 2
 have x3 : w4.cell? ⟨w.heap.size, 3, none⟩ = some (.int .i64 (kd)) := hx.cell 3
 have x4 : w4.cell? ⟨w.heap.size, 4, none⟩ = some (.slice aa sa.length ac) := hx.cell 4
 have y0 : w4.cell? ⟨w.heap.size + 1, 0, none⟩ = some (.int .i64 (i')) := hy.cell 0
 have y1 : w4.cell? ⟨w.heap.size + 1, 1, none⟩ = some (.string nm') := hy.cell 1
 have y2 : w4.cell? ⟨w.heap.size + 1, 2, none⟩ = some (.int .i64 (rp')) := hy.cell 2
 have y3 : w4.cell? ⟨w.heap.size + 1, 3, none⟩ = some (.int .i64 (kd')) := hy.cell 3
 have y4 : w4.cell? ⟨w.heap.size + 1, 4, none⟩ = some (.slice ba sb.length bc) := hy.cell 4
 have z0 : w4.cell? ⟨w.heap.size + 2, 0, none⟩ = some (.bool no) := hz.cell 0
 have z1 : w4.cell? ⟨w.heap.size + 2, 1, none⟩ = some (.int .i64 (k)) := hz.cell 1
 have z2 : w4.cell? ⟨w.heap.size + 2, 2, none⟩ = some (.int .i64 (v)) := hz.cell 2
 have z3 : w4.cell? ⟨w.heap.size + 2, 3, none⟩ = some (.string s) := hz.cell 3
 have z4 : w4.cell? ⟨w.heap.size + 2, 4, none⟩ = some (.slice al l.length cl) := hz.cell 4
 have z5 : w4.cell? ⟨w.heap.size + 2, 5, none⟩ = some (.slice af f.length cf) := hz.cell 5
 cases htb : tame4B (.mk i' nm' rp' kd' sb) with
 | false =>
  clear htb
  go_wp2_with fail
  go_ret
  exact ⟨rfl, hck⟩
 | true =>
 clear htb
 go_wp2_with fail
 refine (weight4_any _ _ w4 S _ (Nat.le_refl _) (Hrd.out.chg0 hck)).mono ?_
 rintro en w5 ⟨wz, rfl, hc5⟩
 replace hck := hck.tr hc5
 replace hx := hx.keep hc5 NoB.elim
 replace hy := hy.keep hc5 NoB.elim
 replace hz := hz.keep hc5 NoB.elim
 (try clear x0 x1 x2 x3 x4 y0 y1 y2 y3 y4 z0 z1 z2 z3 z4 z5)
 have x0 : w5.cell? ⟨w.heap.size, 0, none⟩ = some (.int .i64 (i)) := hx.cell 0
 have x1 : w5.cell? ⟨w.heap.size, 1, none⟩ = some (.string nm) := hx.cell 1
 have x2 : w5.cell? ⟨w.heap.size, 2, none⟩ = some (.int .i64 (rp)) := hx.cell 2
 have x3 : w5.cell? ⟨w.heap.size, 3, none⟩ = some (.int .i64 (kd)) := hx.cell 3
 have x4 : w5.cell? ⟨w.heap.size, 4, none⟩ = some (.slice aa sa.length ac) := hx.cell 4
 have y0 : w5.cell? ⟨w.heap.size + 1, 0, none⟩ = some (.int .i64 (i')) := hy.cell 0
 have y1 : w5.cell? ⟨w.heap.size + 1, 1, none⟩ = some (.string nm') := hy.cell 1
 have y2 : w5.cell? ⟨w.heap.size + 1, 2, none⟩ = some (.int .i64 (rp')) := hy.cell 2
 have y3 : w5.cell? ⟨w.heap.size + 1, 3, none⟩ = some (.int .i64 (kd')) := hy.cell 3
 have y4 : w5.cell? ⟨w.heap.size + 1, 4, none⟩ = some (.slice ba sb.length bc) := hy.cell 4
 have z0 : w5.cell? ⟨w.heap.size + 2, 0, none⟩ = some (.bool no) := hz.cell 0
 have z1 : w5.cell? ⟨w.heap.size + 2, 1, none⟩ = some (.int .i64 (k)) := hz.cell 1
 have z2 : w5.cell? ⟨w.heap.size + 2, 2, none⟩ = some (.int .i64 (v)) := hz.cell 2
 have z3 : w5.cell? ⟨w.heap.size + 2, 3, none⟩ = some (.string s) := hz.cell 3
 have z4 : w5.cell? ⟨w.heap.size + 2, 4, none⟩ = some (.slice al l.length cl) := hz.cell 4
 have z5 : w5.cell? ⟨w.heap.size + 2, 5, none⟩ = some (.slice af f.length cf) := hz.cell 5
 by_cases hwz : (800 : Int) < wz
 ·go_wp2_with fail
  go_ret
  exact ⟨rfl, hck⟩
 go_wp2_with fail
 refine (recErr_any _ _ w5 S S _ _ Hoka.out Hokd.out (Hra.out.chg0 hck) (Hrd.out.chg0 hck)).mono ?_
 rintro en w6 ⟨rfl, hc6⟩
 replace hck := hck.tr hc6
 replace hx := hx.keep hc6 NoB.elim
 replace hy := hy.keep hc6 NoB.elim
 replace hz := hz.keep hc6 NoB.elim
 (try clear x0 x1 x2 x3 x4 y0 y1 y2 y3 y4 z0 z1 z2 z3 z4 z5)
 have x0 : w6.cell? ⟨w.heap.size, 0, none⟩ = some (.int .i64 (i)) := hx.cell 0
 have x1 : w6.cell? ⟨w.heap.size, 1, none⟩ = some (.string nm) := hx.cell 1
 have x2 : w6.cell? ⟨w.heap.size, 2, none⟩ = some (.int .i64 (rp)) := hx.cell 2
 have x3 : w6.cell? ⟨w.heap.size, 3, none⟩ = some (.int .i64 (kd)) := hx.cell 3
 have x4 : w6.cell? ⟨w.heap.size, 4, none⟩ = some (.slice aa sa.length ac) := hx.cell 4
 have y0 : w6.cell? ⟨w.heap.size + 1, 0, none⟩ = some (.int .i64 (i')) := hy.cell 0
 have y1 : w6.cell? ⟨w.heap.size + 1, 1, none⟩ = some (.string nm') := hy.cell 1
 have y2 : w6.cell? ⟨w.heap.size + 1, 2, none⟩ = some (.int .i64 (rp')) := hy.cell 2
 have y3 : w6.cell? ⟨w.heap.size + 1, 3, none⟩ = some (.int .i64 (kd')) := hy.cell 3
 have y4 : w6.cell? ⟨w.heap.size + 1, 4, none⟩ = some (.slice ba sb.length bc) := hy.cell 4
 have z0 : w6.cell? ⟨w.heap.size + 2, 0, none⟩ = some (.bool no) := hz.cell 0
 have z1 : w6.cell? ⟨w.heap.size + 2, 1, none⟩ = some (.int .i64 (k)) := hz.cell 1
 have z2 : w6.cell? ⟨w.heap.size + 2, 2, none⟩ = some (.int .i64 (v)) := hz.cell 2
 have z3 : w6.cell? ⟨w.heap.size + 2, 3, none⟩ = some (.string s) := hz.cell 3
 have z4 : w6.cell? ⟨w.heap.size + 2, 4, none⟩ = some (.slice al l.length cl) := hz.cell 4
 have z5 : w6.cell? ⟨w.heap.size + 2, 5, none⟩ = some (.slice af f.length cf) := hz.cell 5
 go_upto_if 34 with fail
 go_cut [8] (fun v8 wx => v8 = .int .i64 (ekNum (preF (.mk i nm rp kd sa) (.mk i' nm' rp' kd' sb) (.mk no k v s l f))) ∧ Chg NoB w6 wx)
 case first =>
  cases hrec : recF (.mk i nm rp kd sa) (.mk no k v s l f) with
  | some r =>
   have Hpre := Lib.hid (show ekNum (some r) = ekNum (preF (.mk i nm rp kd sa) (.mk i' nm' rp' kd' sb) (.mk no k v s l f)) by unfold preF; rw [hrec])
   obtain ⟨hp1, hp2⟩ := ekNum_pos r
   clear hrec
   generalize ekNum (some r) = ne at hp1 hp2 Hpre ⊢
   have hp3 : (ne == 0) = false := by simpa using (show ¬ ne = 0 by omega)
   go_wp2_with fail
   go_meet
   exact ⟨congrArg (Value.int .i64) Hpre.out, Chg.refl _ _⟩
  | none =>
   rw [ek_none]
   go_wp2_with fail
   refine (err_any _ w6 S _ (Hrb.out.chg0 hck) Hokb.out).mono ?_
   rintro en w7 ⟨rfl, hc7⟩
   have Hpre := Lib.hid (show errNum (validF (.mk i' nm' rp' kd' sb)) = ekNum (preF (.mk i nm rp kd sa) (.mk i' nm' rp' kd' sb) (.mk no k v s l f)) by unfold preF; rw [hrec]; cases validF (.mk i' nm' rp' kd' sb) <;> rfl)
   clear hrec
   go_wp2_with fail
   go_meet
   exact ⟨congrArg (Value.int .i64) Hpre.out, hc7⟩
 case rest =>
 obtain ⟨rfl, hc7⟩ := hcut
 obtain ⟨w7, hw7⟩ : ∃ x, x = wc := ⟨_, rfl⟩
 subst hw7
 replace hck := hck.tr hc7
 replace hx := hx.keep hc7 NoB.elim
 replace hy := hy.keep hc7 NoB.elim
 replace hz := hz.keep hc7 NoB.elim
 (try clear x0 x1 x2 x3 x4 y0 y1 y2 y3 y4 z0 z1 z2 z3 z4 z5)
 have x0 : w7.cell? ⟨w.heap.size, 0, none⟩ = some (.int .i64 (i)) := hx.cell 0
 have x1 : w7.cell? ⟨w.heap.size, 1, none⟩ = some (.string nm) := hx.cell 1
 have x2 : w7.cell? ⟨w.heap.size, 2, none⟩ = some (.int .i64 (rp)) := hx.cell 2
 have x3 : w7.cell? ⟨w.heap.size, 3, none⟩ = some (.int .i64 (kd)) := hx.cell 3
 have x4 : w7.cell? ⟨w.heap.size, 4, none⟩ = some (.slice aa sa.length ac) := hx.cell 4
 have y0 : w7.cell? ⟨w.heap.size + 1, 0, none⟩ = some (.int .i64 (i')) := hy.cell 0
 have y1 : w7.cell? ⟨w.heap.size + 1, 1, none⟩ = some (.string nm') := hy.cell 1
 have y2 : w7.cell? ⟨w.heap.size + 1, 2, none⟩ = some (.int .i64 (rp')) := hy.cell 2
 have y3 : w7.cell? ⟨w.heap.size + 1, 3, none⟩ = some (.int .i64 (kd')) := hy.cell 3
 have y4 : w7.cell? ⟨w.heap.size + 1, 4, none⟩ = some (.slice ba sb.length bc) := hy.cell 4
 have z0 : w7.cell? ⟨w.heap.size + 2, 0, none⟩ = some (.bool no) := hz.cell 0
 have z1 : w7.cell? ⟨w.heap.size + 2, 1, none⟩ = some (.int .i64 (k)) := hz.cell 1
 have z2 : w7.cell? ⟨w.heap.size + 2, 2, none⟩ = some (.int .i64 (v)) := hz.cell 2
 have z3 : w7.cell? ⟨w.heap.size + 2, 3, none⟩ = some (.string s) := hz.cell 3
 have z4 : w7.cell? ⟨w.heap.size + 2, 4, none⟩ = some (.slice al l.length cl) := hz.cell 4
 have z5 : w7.cell? ⟨w.heap.size + 2, 5, none⟩ = some (.slice af f.length cf) := hz.cell 5
 generalize he1 : ekNum (preF (.mk i nm rp kd sa) (.mk i' nm' rp' kd' sb) (.mk no k v s l f)) = e1
 have He1 := Lib.hid he1
 clear he1
 go_upto_region 7 with fail
 go_cut [44] (fun v44 wx => v44 = .bool (noF (.mk i nm rp kd sa) (.mk i' nm' rp' kd' sb) (.mk no k v s l f)) ∧ Chg NoB w7 wx)
 case first =>
  cases hpre : preF (.mk i nm rp kd sa) (.mk i' nm' rp' kd' sb) (.mk no k v s l f) with
  | some r =>
   have Hno := Lib.hid (noF_some hpre)
   have hp3 : (e1 == 0) = false := by
    have h9 := ekNum_pos r
    have h8 := He1.out
    rw [hpre] at h8
    simpa using (show ¬ e1 = 0 by omega)
   clear hpre
   go_wp2_with fail
   go_meet
   exact ⟨congrArg Value.bool Hno.out.symm, Chg.refl _ _⟩
  | none =>
   obtain ⟨hrec, hvb⟩ := pre_none hpre
   have hrv := recF_valid hrec
   have Hno := Lib.hid (noF_none hpre)
   have hf1 := flat_valid hrv.1
   have hf2 := flat_valid hvb
   have hp3 : (e1 == 0) = true := by
    have h8 := He1.out
    rw [hpre, ek_none] at h8
    simpa using h8.symm
   clear hpre hrec hrv hvb
   go_wp2_with fail
   refine (sameOf_any _ _ w7 S _ _ (Hra.out.chg0 hck) (Hrb.out.chg0 hck) Hoka.out Hokb.out hf1 hf2).mono ?_
   rintro en w8 ⟨rfl, hc8⟩
   cases hsame : sameF (knOf (.mk i nm rp kd sa)) (knOf (.mk i' nm' rp' kd' sb)) with
   | false =>
    have Hc9 := Lib.hid (show true = noF (.mk i nm rp kd sa) (.mk i' nm' rp' kd' sb) (.mk no k v s l f) by rw [Hno.out, hsame]; rfl)
    clear hsame
    go_wp2_with fail
    go_meet
    exact ⟨congrArg Value.bool Hc9.out, hc8⟩
   | true =>
    have Hc9 := Lib.hid (show false = noF (.mk i nm rp kd sa) (.mk i' nm' rp' kd' sb) (.mk no k v s l f) by rw [Hno.out, hsame]; rfl)
    clear hsame
    go_wp2_with fail
    go_meet
    exact ⟨congrArg Value.bool Hc9.out, hc8⟩
 case rest =>
 obtain ⟨rfl, hc8⟩ := hcut
 obtain ⟨w8, hw8⟩ : ∃ x, x = wc := ⟨_, rfl⟩
 subst hw8
 replace hck := hck.tr hc8
 replace hx := hx.keep hc8 NoB.elim
 replace hy := hy.keep hc8 NoB.elim
 replace hz := hz.keep hc8 NoB.elim
 (try clear x0 x1 x2 x3 x4 y0 y1 y2 y3 y4 z0 z1 z2 z3 z4 z5)
 have x0 : w8.cell? ⟨w.heap.size, 0, none⟩ = some (.int .i64 (i)) := hx.cell 0
 have x1 : w8.cell? ⟨w.heap.size, 1, none⟩ = some (.string nm) := hx.cell 1
 have x2 : w8.cell? ⟨w.heap.size, 2, none⟩ = some (.int .i64 (rp)) := hx.cell 2
 have x3 : w8.cell? ⟨w.heap.size, 3, none⟩ = some (.int .i64 (kd)) := hx.cell 3
 have x4 : w8.cell? ⟨w.heap.size, 4, none⟩ = some (.slice aa sa.length ac) := hx.cell 4
 have y0 : w8.cell? ⟨w.heap.size + 1, 0, none⟩ = some (.int .i64 (i')) := hy.cell 0
 have y1 : w8.cell? ⟨w.heap.size + 1, 1, none⟩ = some (.string nm') := hy.cell 1
 have y2 : w8.cell? ⟨w.heap.size + 1, 2, none⟩ = some (.int .i64 (rp')) := hy.cell 2
 have y3 : w8.cell? ⟨w.heap.size + 1, 3, none⟩ = some (.int .i64 (kd')) := hy.cell 3
 have y4 : w8.cell? ⟨w.heap.size + 1, 4, none⟩ = some (.slice ba sb.length bc) := hy.cell 4
 have z0 : w8.cell? ⟨w.heap.size + 2, 0, none⟩ = some (.bool no) := hz.cell 0
 have z1 : w8.cell? ⟨w.heap.size + 2, 1, none⟩ = some (.int .i64 (k)) := hz.cell 1
 have z2 : w8.cell? ⟨w.heap.size + 2, 2, none⟩ = some (.int .i64 (v)) := hz.cell 2
 have z3 : w8.cell? ⟨w.heap.size + 2, 3, none⟩ = some (.string s) := hz.cell 3
 have z4 : w8.cell? ⟨w.heap.size + 2, 4, none⟩ = some (.slice al l.length cl) := hz.cell 4
 have z5 : w8.cell? ⟨w.heap.size + 2, 5, none⟩ = some (.slice af f.length cf) := hz.cell 5
 go_upto_if 44 with fail
 go_cut [8] (fun v8 wx => v8 = .int .i64 (ekNum (carryF (.mk i nm rp kd sa) (.mk i' nm' rp' kd' sb) (.mk no k v s l f)).1) ∧ wx = w8)
 case first =>
  cases hpre : preF (.mk i nm rp kd sa) (.mk i' nm' rp' kd' sb) (.mk no k v s l f) with
  | some r =>
   have Hcp := Lib.hid (carry_pre hpre)
   have He1' := Lib.hid (show e1 = ekNum (some r) by rw [← He1.out, hpre])
   rw [noF_some hpre]
   clear hpre
   go_wp2_with fail
   go_meet
   exact ⟨congrArg (Value.int .i64) (by rw [Hcp.out]; exact He1'.out), rfl⟩
  | none =>
   obtain ⟨hrec, hvb⟩ := pre_none hpre
   cases hsame : sameF (knOf (.mk i nm rp kd sa)) (knOf (.mk i' nm' rp' kd' sb)) with
   | false =>
    have Hc9 := Lib.hid (carryF_no hrec hvb hsame)
    rw [noF_none hpre, hsame, Bool.not_false]
    clear hpre hrec hvb hsame
    go_wp2_with fail
    go_meet
    exact ⟨congrArg (Value.int .i64) (by rw [Hc9.out]; rfl), rfl⟩
   | true =>
    have Hc9 := Lib.hid (carryF_yes hrec hvb hsame)
    have He1' := Lib.hid (show e1 = ekNum none by rw [← He1.out, hpre])
    rw [noF_none hpre, hsame, Bool.not_true]
    clear hpre hrec hvb hsame
    go_wp2_with fail
    go_meet
    exact ⟨congrArg (Value.int .i64) (by rw [Hc9.out]; exact He1'.out), rfl⟩
 case rest =>
 obtain ⟨rfl, hwc⟩ := hcut
 rw [hwc]
 clear hwc
 have Hcar := Lib.hid (show carryF (.mk i nm rp kd sa) (.mk i' nm' rp' kd' sb) (.mk no k v s l f) = ((carryF (.mk i nm rp kd sa) (.mk i' nm' rp' kd' sb) (.mk no k v s l f)).1, (carryF (.mk i nm rp kd sa) (.mk i' nm' rp' kd' sb) (.mk no k v s l f)).2) from rfl)
 go_upto_region 9 with fail
 go_cut [9, 10] (fun v9 v10 wx => ∃ zb c6, v9 = .pointer (some ⟨zb, 0, none⟩) ∧ v10 = ekVal E (sv (A 3)) (carryF (.mk i nm rp kd sa) (.mk i' nm' rp' kd' sb) (.mk no k v s l f)).1 ∧ Chg NoB w8 wx ∧ Blk wx zb c6 43 ∧ Reads wx (fun _ => True) (Dm.dt (carryF (.mk i nm rp kd sa) (.mk i' nm' rp' kd' sb) (.mk no k v s l f)).2) c6 ∧ w.heap.size + 3 ≤ zb)
 case first =>
  have hzlt := hz.lt
  refine wp_region_n (fun w' => w'.cell? ⟨w.heap.size, 0, none⟩ = some (.int .i64 i) ∧ w'.cell? ⟨w.heap.size, 1, none⟩ = some (.string nm) ∧ w'.cell? ⟨w.heap.size, 2, none⟩ = some (.int .i64 rp) ∧ w'.cell? ⟨w.heap.size, 3, none⟩ = some (.int .i64 kd) ∧ w'.cell? ⟨w.heap.size, 4, none⟩ = some (.slice aa sa.length ac) ∧ w'.cell? ⟨w.heap.size + 1, 0, none⟩ = some (.int .i64 i') ∧ w'.cell? ⟨w.heap.size + 1, 1, none⟩ = some (.string nm') ∧ w'.cell? ⟨w.heap.size + 1, 2, none⟩ = some (.int .i64 rp') ∧ w'.cell? ⟨w.heap.size + 1, 3, none⟩ = some (.int .i64 kd') ∧ w'.cell? ⟨w.heap.size + 1, 4, none⟩ = some (.slice ba sb.length bc) ∧ w'.cell? ⟨w.heap.size + 2, 0, none⟩ = some (.bool no) ∧ w'.cell? ⟨w.heap.size + 2, 1, none⟩ = some (.int .i64 k) ∧ w'.cell? ⟨w.heap.size + 2, 2, none⟩ = some (.int .i64 v) ∧ w'.cell? ⟨w.heap.size + 2, 3, none⟩ = some (.string s) ∧ w'.cell? ⟨w.heap.size + 2, 4, none⟩ = some (.slice al l.length cl) ∧ w'.cell? ⟨w.heap.size + 2, 5, none⟩ = some (.slice af f.length cf)) [] (by kernel_rfl) ?_ (fun hSh => ?_)
  ·exact ⟨x0, x1, x2, x3, x4, y0, y1, y2, y3, y4, z0, z1, z2, z3, z4, z5⟩
  replace hck := hck.drew
  have hkk : Chg NoB w8 (w8).drew := (Chg.refl _ _).drew
  generalize World.drew w8 = wv at hSh hck hkk ⊢
  refine n_take (v := ?_) 0 rfl (Or.inl ⟨by rfl, ?_⟩) (by kernel_rfl) (fun _ _ _ h => h) (by assumption) ?_
  rotate_left 1
  ·(intro w' hSw; (try dsimp only at hSw); go_simp; try with_reducible rfl)
  simp only [Act.put, List.getElem_toArray, List.getElem_cons_zero, List.getElem_cons_succ, List.setIfInBounds_toArray, List.set_cons_zero, List.set_cons_succ]
  refine n_take (v := ?_) 2 rfl (Or.inl ⟨by rfl, ?_⟩) (by kernel_rfl) (fun _ _ _ h => h) (by assumption) ?_
  rotate_left 1
  ·(intro w' hSw; (try dsimp only at hSw); go_simp; try with_reducible rfl)
  simp only [Act.put, List.getElem_toArray, List.getElem_cons_zero, List.getElem_cons_succ, List.setIfInBounds_toArray, List.set_cons_zero, List.set_cons_succ]
  refine n_take (v := ?_) 4 rfl (Or.inl ⟨by rfl, ?_⟩) (by kernel_rfl) (fun _ _ _ h => h) (by assumption) ?_
  rotate_left 1
  ·(intro w' hSw; (try dsimp only at hSw); go_simp; try with_reducible rfl)
  simp only [Act.put, List.getElem_toArray, List.getElem_cons_zero, List.getElem_cons_succ, List.setIfInBounds_toArray, List.set_cons_zero, List.set_cons_succ]
  refine n_fork 1 10 rfl rfl (by kernel_rfl) ?_ ?_
  ·go_wp2_with fail
   refine (ownNode_any _ _ _ S _ (Nat.le_refl _) (Hra.out.chg0 hck) Hoka.out).mono ?_
   rintro en wa ⟨csa, rfl, hrA, hca⟩
   obtain ⟨va, rfl, hsA⟩ := reads_nd.1 hrA
   obtain ⟨a1, ac1, rfl, _, _, _⟩ := reads_subs hsA
   clear hsA
   go_wp2_with fail
   replace hck := hck.tr hca
   replace hkk := hkk.tr hca
   (try replace hzz := hzz.keep hca NoB.elim)
   refine ⟨fun _ => ?_, fun hSk => ?_⟩
   ·have hq := Chg.keeps hkk
    exact ⟨hq _ _ x0, hq _ _ x1, hq _ _ x2, hq _ _ x3, hq _ _ x4, hq _ _ y0, hq _ _ y1, hq _ _ y2, hq _ _ y3, hq _ _ y4, hq _ _ z0, hq _ _ z1, hq _ _ z2, hq _ _ z3, hq _ _ z4, hq _ _ z5⟩
   replace hSk := hSk (by rfl)
   refine n_fork 3 10 rfl rfl (by kernel_rfl) ?_ ?_
   ·go_wp2_with fail
    refine (ownNode_any _ _ _ S _ (Nat.le_refl _) (Hrb.out.chg0 hck) Hokb.out).mono ?_
    rintro en wb ⟨csb, rfl, hrB, hcb⟩
    obtain ⟨vb, rfl, hsB⟩ := reads_nd.1 hrB
    obtain ⟨b1, bc1, rfl, _, _, _⟩ := reads_subs hsB
    clear hsB
    go_wp2_with fail
    replace hck := hck.tr hcb
    replace hkk := hkk.tr hcb
    replace hrA := hrA.chg0 hcb
    (try replace hzz := hzz.keep hcb NoB.elim)
    refine ⟨fun _ => ?_, fun hSk => ?_⟩
    ·have hq := Chg.keeps hkk
     exact ⟨hq _ _ x0, hq _ _ x1, hq _ _ x2, hq _ _ x3, hq _ _ x4, hq _ _ y0, hq _ _ y1, hq _ _ y2, hq _ _ y3, hq _ _ y4, hq _ _ z0, hq _ _ z1, hq _ _ z2, hq _ _ z3, hq _ _ z4, hq _ _ z5⟩
    replace hSk := hSk (by rfl)
    refine n_fork 5 10 rfl rfl (by kernel_rfl) ?_ ?_
    ·go_wp2_with fail
     refine (ownDatum_any _ _ _ S _ (Nat.le_refl _) (Hrd.out.chg0 hck) Hokd.out).mono ?_
     rintro en wd ⟨csd, rfl, hrD, hcd⟩
     obtain ⟨dl, df, rfl, hsD, hsE⟩ := reads_dm.1 hrD
     obtain ⟨d1, dc1, rfl, _, _, _⟩ := reads_data hsD
     obtain ⟨d2, dc2, rfl, _, _, _⟩ := reads_data hsE
     clear hsD hsE
     go_wp2_with fail
     replace hck := hck.tr hcd
     replace hkk := hkk.tr hcd
     replace hrA := hrA.chg0 hcd
     replace hrB := hrB.chg0 hcd
     (try replace hzz := hzz.keep hcd NoB.elim)
     refine ⟨fun _ => ?_, fun hSk => ?_⟩
     ·have hq := Chg.keeps hkk
      exact ⟨hq _ _ x0, hq _ _ x1, hq _ _ x2, hq _ _ x3, hq _ _ x4, hq _ _ y0, hq _ _ y1, hq _ _ y2, hq _ _ y3, hq _ _ y4, hq _ _ z0, hq _ _ z1, hq _ _ z2, hq _ _ z3, hq _ _ z4, hq _ _ z5⟩
     replace hSk := hSk (by rfl)
     refine n_fork 6 10 rfl rfl (by kernel_rfl) ?_ ?_
     ·go_wp2_with fail
      refine (carry_any (.mk i nm rp kd sa) (.mk i' nm' rp' kd' sb) (.mk no k v s l f) wd (fun b => b < (wd).heap.size) _ _ _ E (sv (A 3)) (hE.keep0 hck) Hoka.out Hokb.out Hokd.out (hrA.lt.mono (fun b hb => hb.2)) (hrB.lt.mono (fun b hb => hb.2)) (hrD.lt.mono (fun b hb => hb.2)) (fun _ h => h)).mono ?_
      rintro en we ⟨ycs, rfl, hry, hce⟩
      generalize hX : (carryF (.mk i nm rp kd sa) (.mk i' nm' rp' kd' sb) (.mk no k v s l f)).2 = dx at hry
      have HX := Lib.hid hX
      clear hX
      obtain ⟨t9, tk, tn, ts, tl, tf⟩ := dx
      obtain ⟨vl5, vf5, rfl, hs8, hs9⟩ := reads_dm.1 hry
      obtain ⟨a5, c5, rfl, _, _, _⟩ := reads_data hs8
      obtain ⟨a6, c6, rfl, _, _, _⟩ := reads_data hs9
      clear hs8 hs9
      go_wp2_with fail
      replace hck := hck.tr hce
      replace hkk := hkk.tr hce
      refine ⟨fun _ => ?_, fun hSk => ?_⟩
      ·have hq := Chg.keeps hkk
       exact ⟨hq _ _ x0, hq _ _ x1, hq _ _ x2, hq _ _ x3, hq _ _ x4, hq _ _ y0, hq _ _ y1, hq _ _ y2, hq _ _ y3, hq _ _ y4, hq _ _ z0, hq _ _ z1, hq _ _ z2, hq _ _ z3, hq _ _ z4, hq _ _ z5⟩
      replace hSk := hSk (by rfl)
      refine n_take (v := ?_) 7 rfl (Or.inl ⟨by rfl, ?_⟩) (by kernel_rfl) (fun _ _ _ h => h) (by assumption) ?_
      rotate_left 1
      ·(intro w' hSw; (try dsimp only at hSw); go_simp; try with_reducible rfl)
      simp only [Act.put, List.getElem_toArray, List.getElem_cons_zero, List.getElem_cons_succ, List.setIfInBounds_toArray, List.set_cons_zero, List.set_cons_succ]
      refine n_take (v := ?_) 8 rfl (Or.inl ⟨by rfl, ?_⟩) (by kernel_rfl) (fun _ _ _ h => h) (by assumption) ?_
      rotate_left 1
      ·(intro w' hSw; (try dsimp only at hSw); go_simp; try with_reducible rfl)
      simp only [Act.put, List.getElem_toArray, List.getElem_cons_zero, List.getElem_cons_succ, List.setIfInBounds_toArray, List.set_cons_zero, List.set_cons_succ]
      refine n_take (v := ?_) 9 rfl (Or.inl ⟨by rfl, ?_⟩) (by kernel_rfl) (fun _ _ _ h => h) (by assumption) ?_
      rotate_left 1
      ·(intro w' hSw; (try dsimp only at hSw); go_simp; try with_reducible rfl)
      simp only [Act.put, List.getElem_toArray, List.getElem_cons_zero, List.getElem_cons_succ, List.setIfInBounds_toArray, List.set_cons_zero, List.set_cons_succ]
      have hrl := hry.lt
      refine n_step 10 rfl (by kernel_rfl) ?_
      go_wp2_with fail
      have hzk := hkk.size
      generalize hwz : World.alloc we _ = wz
      have hcz : Chg NoB we wz := by
       rw [← hwz]
       exact (Chg.refl _ _).alloc _
      have hzz : Blk wz (we).heap.size (dmCells false 0 0 ⟨#[]⟩ (.slice none 0 0) (.slice none 0 0)) 43 := by
       rw [← hwz]
       exact Blk.newAt rfl
      clear hwz
      replace hck := hck.tr hcz
      replace hkk := hkk.tr hcz
      (try replace hrA := hrA.chg0 hcz)
      (try replace hrB := hrB.chg0 hcz)
      (try replace hrD := hrD.chg0 hcz)
      refine ⟨fun _ => ?_, fun hSk => ?_⟩
      ·have hq := Chg.keeps hkk
       exact ⟨hq _ _ x0, hq _ _ x1, hq _ _ x2, hq _ _ x3, hq _ _ x4, hq _ _ y0, hq _ _ y1, hq _ _ y2, hq _ _ y3, hq _ _ y4, hq _ _ z0, hq _ _ z1, hq _ _ z2, hq _ _ z3, hq _ _ z4, hq _ _ z5⟩
      replace hSk := hSk (by rfl)
      have hryz := (hrl.chg0 hcz).mono (S' := fun b => b ≠ we.heap.size) (fun b hb => by have := hb.2; omega)
      refine n_step 11 rfl (by kernel_rfl) ?_
      have o0 : wz.cell? ⟨(we).heap.size, 0, none⟩ = some (.bool false) := hzz.cell 0
      have o1 : wz.cell? ⟨(we).heap.size, 1, none⟩ = some (.int .i64 (0)) := hzz.cell 1
      have o2 : wz.cell? ⟨(we).heap.size, 2, none⟩ = some (.int .i64 (0)) := hzz.cell 2
      have o3 : wz.cell? ⟨(we).heap.size, 3, none⟩ = some (.string ⟨#[]⟩) := hzz.cell 3
      have o4 : wz.cell? ⟨(we).heap.size, 4, none⟩ = some (.slice none 0 0) := hzz.cell 4
      have o5 : wz.cell? ⟨(we).heap.size, 5, none⟩ = some (.slice none 0 0) := hzz.cell 5
      have ff0 : wz.frozen? ⟨(we).heap.size, 0, none⟩ = false := hzz.free 0
      have ff1 : wz.frozen? ⟨(we).heap.size, 1, none⟩ = false := hzz.free 1
      have ff2 : wz.frozen? ⟨(we).heap.size, 2, none⟩ = false := hzz.free 2
      have ff3 : wz.frozen? ⟨(we).heap.size, 3, none⟩ = false := hzz.free 3
      have ff4 : wz.frozen? ⟨(we).heap.size, 4, none⟩ = false := hzz.free 4
      have ff5 : wz.frozen? ⟨(we).heap.size, 5, none⟩ = false := hzz.free 5
      go_wp2_with fail
      have hsE := store6_chg wz (we).heap.size (.bool t9) (.int .i64 tk) (.int .i64 tn) (.string ts) (.slice a5 tl.length c5) (.slice a6 tf.length c6)
      have hfi : Chg (OneB (we).heap.size) w8 wz := (Chg.refl (OneB (we).heap.size) w8).trans hkk (fun b e => NoB.elim e)
      have hfin := hfi.trans hsE (fun b e => .inl e)
      refine ⟨fun _ => ?_, fun hSk => ?_⟩
      ·have hq := Chg.keepsOne hfin
       have hb0 : w.heap.size ≠ (we).heap.size := by omega
       have hb1 : w.heap.size + 1 ≠ (we).heap.size := by omega
       have hb2 : w.heap.size + 2 ≠ (we).heap.size := by omega
       exact ⟨hq _ _ hb0 x0, hq _ _ hb0 x1, hq _ _ hb0 x2, hq _ _ hb0 x3, hq _ _ hb0 x4, hq _ _ hb1 y0, hq _ _ hb1 y1, hq _ _ hb1 y2, hq _ _ hb1 y3, hq _ _ hb1 y4, hq _ _ hb2 z0, hq _ _ hb2 z1, hq _ _ hb2 z2, hq _ _ hb2 z3, hq _ _ hb2 z4, hq _ _ hb2 z5⟩
      replace hSk := hSk (by rfl)
      refine n_take (v := ?_) 12 rfl (Or.inl ⟨by rfl, ?_⟩) (by kernel_rfl) (fun _ _ _ h => h) (by assumption) ?_
      rotate_left 1
      ·(intro w' hSw; (try dsimp only at hSw); go_simp; try with_reducible rfl)
      simp only [Act.put, List.getElem_toArray, List.getElem_cons_zero, List.getElem_cons_succ, List.setIfInBounds_toArray, List.set_cons_zero, List.set_cons_succ]
      refine n_done (by kernel_rfl) ?_
      go_wp2_with fail
      go_meet
      exact ⟨(we).heap.size, _, rfl, rfl, hkk.trans hsE (fun b e => .inr (by have e : b = (we).heap.size := e; omega)), store6 hzz _ _ _ _ _ _, by rw [HX.out]; exact (hryz.chg hsE (fun b hb e => hb e)).mono (fun _ _ => trivial), by omega⟩
     ·go_wp2_with fail
      have hzk := hkk.size
      generalize hwz : World.alloc wd _ = wz
      have hcz : Chg NoB wd wz := by
       rw [← hwz]
       exact (Chg.refl _ _).alloc _
      have hzz : Blk wz (wd).heap.size (dmCells false 0 0 ⟨#[]⟩ (.slice none 0 0) (.slice none 0 0)) 43 := by
       rw [← hwz]
       exact Blk.newAt rfl
      clear hwz
      replace hck := hck.tr hcz
      replace hkk := hkk.tr hcz
      (try replace hrA := hrA.chg0 hcz)
      (try replace hrB := hrB.chg0 hcz)
      (try replace hrD := hrD.chg0 hcz)
      refine ⟨fun _ => ?_, fun hSk => ?_⟩
      ·have hq := Chg.keeps hkk
       exact ⟨hq _ _ x0, hq _ _ x1, hq _ _ x2, hq _ _ x3, hq _ _ x4, hq _ _ y0, hq _ _ y1, hq _ _ y2, hq _ _ y3, hq _ _ y4, hq _ _ z0, hq _ _ z1, hq _ _ z2, hq _ _ z3, hq _ _ z4, hq _ _ z5⟩
      replace hSk := hSk (by rfl)
      have hzl2 := hzz.lt
      refine n_step 6 rfl (by kernel_rfl) ?_
      go_wp2_with fail
      refine (carry_any (.mk i nm rp kd sa) (.mk i' nm' rp' kd' sb) (.mk no k v s l f) wz (fun b => b < (wz).heap.size) _ _ _ E (sv (A 3)) (hE.keep0 hck) Hoka.out Hokb.out Hokd.out (hrA.lt.mono (fun b hb => hb.2)) (hrB.lt.mono (fun b hb => hb.2)) (hrD.lt.mono (fun b hb => hb.2)) (fun _ h => h)).mono ?_
      rintro en we ⟨ycs, rfl, hry, hce⟩
      generalize hX : (carryF (.mk i nm rp kd sa) (.mk i' nm' rp' kd' sb) (.mk no k v s l f)).2 = dx at hry
      have HX := Lib.hid hX
      clear hX
      obtain ⟨t9, tk, tn, ts, tl, tf⟩ := dx
      obtain ⟨vl5, vf5, rfl, hs8, hs9⟩ := reads_dm.1 hry
      obtain ⟨a5, c5, rfl, _, _, _⟩ := reads_data hs8
      obtain ⟨a6, c6, rfl, _, _, _⟩ := reads_data hs9
      clear hs8 hs9
      go_wp2_with fail
      replace hck := hck.tr hce
      replace hkk := hkk.tr hce
      refine ⟨fun _ => ?_, fun hSk => ?_⟩
      ·have hq := Chg.keeps hkk
       exact ⟨hq _ _ x0, hq _ _ x1, hq _ _ x2, hq _ _ x3, hq _ _ x4, hq _ _ y0, hq _ _ y1, hq _ _ y2, hq _ _ y3, hq _ _ y4, hq _ _ z0, hq _ _ z1, hq _ _ z2, hq _ _ z3, hq _ _ z4, hq _ _ z5⟩
      replace hSk := hSk (by rfl)
      refine n_take (v := ?_) 7 rfl (Or.inl ⟨by rfl, ?_⟩) (by kernel_rfl) (fun _ _ _ h => h) (by assumption) ?_
      rotate_left 1
      ·(intro w' hSw; (try dsimp only at hSw); go_simp; try with_reducible rfl)
      simp only [Act.put, List.getElem_toArray, List.getElem_cons_zero, List.getElem_cons_succ, List.setIfInBounds_toArray, List.set_cons_zero, List.set_cons_succ]
      refine n_take (v := ?_) 8 rfl (Or.inl ⟨by rfl, ?_⟩) (by kernel_rfl) (fun _ _ _ h => h) (by assumption) ?_
      rotate_left 1
      ·(intro w' hSw; (try dsimp only at hSw); go_simp; try with_reducible rfl)
      simp only [Act.put, List.getElem_toArray, List.getElem_cons_zero, List.getElem_cons_succ, List.setIfInBounds_toArray, List.set_cons_zero, List.set_cons_succ]
      refine n_take (v := ?_) 9 rfl (Or.inl ⟨by rfl, ?_⟩) (by kernel_rfl) (fun _ _ _ h => h) (by assumption) ?_
      rotate_left 1
      ·(intro w' hSw; (try dsimp only at hSw); go_simp; try with_reducible rfl)
      simp only [Act.put, List.getElem_toArray, List.getElem_cons_zero, List.getElem_cons_succ, List.setIfInBounds_toArray, List.set_cons_zero, List.set_cons_succ]
      replace hzz := hzz.keep hce NoB.elim
      have hryz := hry.mono (S' := fun b => b ≠ (wd).heap.size) (fun b hb => by have hb : _ ≤ b := hb; omega)
      refine n_step 11 rfl (by kernel_rfl) ?_
      have o0 : we.cell? ⟨(wd).heap.size, 0, none⟩ = some (.bool false) := hzz.cell 0
      have o1 : we.cell? ⟨(wd).heap.size, 1, none⟩ = some (.int .i64 (0)) := hzz.cell 1
      have o2 : we.cell? ⟨(wd).heap.size, 2, none⟩ = some (.int .i64 (0)) := hzz.cell 2
      have o3 : we.cell? ⟨(wd).heap.size, 3, none⟩ = some (.string ⟨#[]⟩) := hzz.cell 3
      have o4 : we.cell? ⟨(wd).heap.size, 4, none⟩ = some (.slice none 0 0) := hzz.cell 4
      have o5 : we.cell? ⟨(wd).heap.size, 5, none⟩ = some (.slice none 0 0) := hzz.cell 5
      have ff0 : we.frozen? ⟨(wd).heap.size, 0, none⟩ = false := hzz.free 0
      have ff1 : we.frozen? ⟨(wd).heap.size, 1, none⟩ = false := hzz.free 1
      have ff2 : we.frozen? ⟨(wd).heap.size, 2, none⟩ = false := hzz.free 2
      have ff3 : we.frozen? ⟨(wd).heap.size, 3, none⟩ = false := hzz.free 3
      have ff4 : we.frozen? ⟨(wd).heap.size, 4, none⟩ = false := hzz.free 4
      have ff5 : we.frozen? ⟨(wd).heap.size, 5, none⟩ = false := hzz.free 5
      go_wp2_with fail
      have hsE := store6_chg we (wd).heap.size (.bool t9) (.int .i64 tk) (.int .i64 tn) (.string ts) (.slice a5 tl.length c5) (.slice a6 tf.length c6)
      have hfi : Chg (OneB (wd).heap.size) w8 we := (Chg.refl (OneB (wd).heap.size) w8).trans hkk (fun b e => NoB.elim e)
      have hfin := hfi.trans hsE (fun b e => .inl e)
      refine ⟨fun _ => ?_, fun hSk => ?_⟩
      ·have hq := Chg.keepsOne hfin
       have hb0 : w.heap.size ≠ (wd).heap.size := by omega
       have hb1 : w.heap.size + 1 ≠ (wd).heap.size := by omega
       have hb2 : w.heap.size + 2 ≠ (wd).heap.size := by omega
       exact ⟨hq _ _ hb0 x0, hq _ _ hb0 x1, hq _ _ hb0 x2, hq _ _ hb0 x3, hq _ _ hb0 x4, hq _ _ hb1 y0, hq _ _ hb1 y1, hq _ _ hb1 y2, hq _ _ hb1 y3, hq _ _ hb1 y4, hq _ _ hb2 z0, hq _ _ hb2 z1, hq _ _ hb2 z2, hq _ _ hb2 z3, hq _ _ hb2 z4, hq _ _ hb2 z5⟩
      replace hSk := hSk (by rfl)
      refine n_take (v := ?_) 12 rfl (Or.inl ⟨by rfl, ?_⟩) (by kernel_rfl) (fun _ _ _ h => h) (by assumption) ?_
      rotate_left 1
      ·(intro w' hSw; (try dsimp only at hSw); go_simp; try with_reducible rfl)
      simp only [Act.put, List.getElem_toArray, List.getElem_cons_zero, List.getElem_cons_succ, List.setIfInBounds_toArray, List.set_cons_zero, List.set_cons_succ]
      refine n_done (by kernel_rfl) ?_
      go_wp2_with fail
      go_meet
      exact ⟨(wd).heap.size, _, rfl, rfl, hkk.trans hsE (fun b e => .inr (by have e : b = (wd).heap.size := e; omega)), store6 hzz _ _ _ _ _ _, by rw [HX.out]; exact (hryz.chg hsE (fun b hb e => hb e)).mono (fun _ _ => trivial), by omega⟩
    ·go_wp2_with fail
     have hzk := hkk.size
     generalize hwz : World.alloc wb _ = wz
     have hcz : Chg NoB wb wz := by
      rw [← hwz]
      exact (Chg.refl _ _).alloc _
     have hzz : Blk wz (wb).heap.size (dmCells false 0 0 ⟨#[]⟩ (.slice none 0 0) (.slice none 0 0)) 43 := by
      rw [← hwz]
      exact Blk.newAt rfl
     clear hwz
     replace hck := hck.tr hcz
     replace hkk := hkk.tr hcz
     (try replace hrA := hrA.chg0 hcz)
     (try replace hrB := hrB.chg0 hcz)
     (try replace hrD := hrD.chg0 hcz)
     refine ⟨fun _ => ?_, fun hSk => ?_⟩
     ·have hq := Chg.keeps hkk
      exact ⟨hq _ _ x0, hq _ _ x1, hq _ _ x2, hq _ _ x3, hq _ _ x4, hq _ _ y0, hq _ _ y1, hq _ _ y2, hq _ _ y3, hq _ _ y4, hq _ _ z0, hq _ _ z1, hq _ _ z2, hq _ _ z3, hq _ _ z4, hq _ _ z5⟩
     replace hSk := hSk (by rfl)
     refine n_step 5 rfl (by kernel_rfl) ?_
     go_wp2_with fail
     refine (ownDatum_any _ _ _ S _ (Nat.le_refl _) (Hrd.out.chg0 hck) Hokd.out).mono ?_
     rintro en wd ⟨csd, rfl, hrD, hcd⟩
     obtain ⟨dl, df, rfl, hsD, hsE⟩ := reads_dm.1 hrD
     obtain ⟨d1, dc1, rfl, _, _, _⟩ := reads_data hsD
     obtain ⟨d2, dc2, rfl, _, _, _⟩ := reads_data hsE
     clear hsD hsE
     go_wp2_with fail
     replace hck := hck.tr hcd
     replace hkk := hkk.tr hcd
     replace hrA := hrA.chg0 hcd
     replace hrB := hrB.chg0 hcd
     (try replace hzz := hzz.keep hcd NoB.elim)
     refine ⟨fun _ => ?_, fun hSk => ?_⟩
     ·have hq := Chg.keeps hkk
      exact ⟨hq _ _ x0, hq _ _ x1, hq _ _ x2, hq _ _ x3, hq _ _ x4, hq _ _ y0, hq _ _ y1, hq _ _ y2, hq _ _ y3, hq _ _ y4, hq _ _ z0, hq _ _ z1, hq _ _ z2, hq _ _ z3, hq _ _ z4, hq _ _ z5⟩
     replace hSk := hSk (by rfl)
     have hzl2 := hzz.lt
     refine n_step 6 rfl (by kernel_rfl) ?_
     go_wp2_with fail
     refine (carry_any (.mk i nm rp kd sa) (.mk i' nm' rp' kd' sb) (.mk no k v s l f) wd (fun b => b < (wd).heap.size) _ _ _ E (sv (A 3)) (hE.keep0 hck) Hoka.out Hokb.out Hokd.out (hrA.lt.mono (fun b hb => hb.2)) (hrB.lt.mono (fun b hb => hb.2)) (hrD.lt.mono (fun b hb => hb.2)) (fun _ h => h)).mono ?_
     rintro en we ⟨ycs, rfl, hry, hce⟩
     generalize hX : (carryF (.mk i nm rp kd sa) (.mk i' nm' rp' kd' sb) (.mk no k v s l f)).2 = dx at hry
     have HX := Lib.hid hX
     clear hX
     obtain ⟨t9, tk, tn, ts, tl, tf⟩ := dx
     obtain ⟨vl5, vf5, rfl, hs8, hs9⟩ := reads_dm.1 hry
     obtain ⟨a5, c5, rfl, _, _, _⟩ := reads_data hs8
     obtain ⟨a6, c6, rfl, _, _, _⟩ := reads_data hs9
     clear hs8 hs9
     go_wp2_with fail
     replace hck := hck.tr hce
     replace hkk := hkk.tr hce
     refine ⟨fun _ => ?_, fun hSk => ?_⟩
     ·have hq := Chg.keeps hkk
      exact ⟨hq _ _ x0, hq _ _ x1, hq _ _ x2, hq _ _ x3, hq _ _ x4, hq _ _ y0, hq _ _ y1, hq _ _ y2, hq _ _ y3, hq _ _ y4, hq _ _ z0, hq _ _ z1, hq _ _ z2, hq _ _ z3, hq _ _ z4, hq _ _ z5⟩
     replace hSk := hSk (by rfl)
     refine n_take (v := ?_) 7 rfl (Or.inl ⟨by rfl, ?_⟩) (by kernel_rfl) (fun _ _ _ h => h) (by assumption) ?_
     rotate_left 1
     ·(intro w' hSw; (try dsimp only at hSw); go_simp; try with_reducible rfl)
     simp only [Act.put, List.getElem_toArray, List.getElem_cons_zero, List.getElem_cons_succ, List.setIfInBounds_toArray, List.set_cons_zero, List.set_cons_succ]
     refine n_take (v := ?_) 8 rfl (Or.inl ⟨by rfl, ?_⟩) (by kernel_rfl) (fun _ _ _ h => h) (by assumption) ?_
     rotate_left 1
     ·(intro w' hSw; (try dsimp only at hSw); go_simp; try with_reducible rfl)
     simp only [Act.put, List.getElem_toArray, List.getElem_cons_zero, List.getElem_cons_succ, List.setIfInBounds_toArray, List.set_cons_zero, List.set_cons_succ]
     refine n_take (v := ?_) 9 rfl (Or.inl ⟨by rfl, ?_⟩) (by kernel_rfl) (fun _ _ _ h => h) (by assumption) ?_
     rotate_left 1
     ·(intro w' hSw; (try dsimp only at hSw); go_simp; try with_reducible rfl)
     simp only [Act.put, List.getElem_toArray, List.getElem_cons_zero, List.getElem_cons_succ, List.setIfInBounds_toArray, List.set_cons_zero, List.set_cons_succ]
     replace hzz := hzz.keep hce NoB.elim
     have hryz := hry.mono (S' := fun b => b ≠ (wb).heap.size) (fun b hb => by have hb : _ ≤ b := hb; omega)
     refine n_step 11 rfl (by kernel_rfl) ?_
     have o0 : we.cell? ⟨(wb).heap.size, 0, none⟩ = some (.bool false) := hzz.cell 0
     have o1 : we.cell? ⟨(wb).heap.size, 1, none⟩ = some (.int .i64 (0)) := hzz.cell 1
     have o2 : we.cell? ⟨(wb).heap.size, 2, none⟩ = some (.int .i64 (0)) := hzz.cell 2
     have o3 : we.cell? ⟨(wb).heap.size, 3, none⟩ = some (.string ⟨#[]⟩) := hzz.cell 3
     have o4 : we.cell? ⟨(wb).heap.size, 4, none⟩ = some (.slice none 0 0) := hzz.cell 4
     have o5 : we.cell? ⟨(wb).heap.size, 5, none⟩ = some (.slice none 0 0) := hzz.cell 5
     have ff0 : we.frozen? ⟨(wb).heap.size, 0, none⟩ = false := hzz.free 0
     have ff1 : we.frozen? ⟨(wb).heap.size, 1, none⟩ = false := hzz.free 1
     have ff2 : we.frozen? ⟨(wb).heap.size, 2, none⟩ = false := hzz.free 2
     have ff3 : we.frozen? ⟨(wb).heap.size, 3, none⟩ = false := hzz.free 3
     have ff4 : we.frozen? ⟨(wb).heap.size, 4, none⟩ = false := hzz.free 4
     have ff5 : we.frozen? ⟨(wb).heap.size, 5, none⟩ = false := hzz.free 5
     go_wp2_with fail
     have hsE := store6_chg we (wb).heap.size (.bool t9) (.int .i64 tk) (.int .i64 tn) (.string ts) (.slice a5 tl.length c5) (.slice a6 tf.length c6)
     have hfi : Chg (OneB (wb).heap.size) w8 we := (Chg.refl (OneB (wb).heap.size) w8).trans hkk (fun b e => NoB.elim e)
     have hfin := hfi.trans hsE (fun b e => .inl e)
     refine ⟨fun _ => ?_, fun hSk => ?_⟩
     ·have hq := Chg.keepsOne hfin
      have hb0 : w.heap.size ≠ (wb).heap.size := by omega
      have hb1 : w.heap.size + 1 ≠ (wb).heap.size := by omega
      have hb2 : w.heap.size + 2 ≠ (wb).heap.size := by omega
      exact ⟨hq _ _ hb0 x0, hq _ _ hb0 x1, hq _ _ hb0 x2, hq _ _ hb0 x3, hq _ _ hb0 x4, hq _ _ hb1 y0, hq _ _ hb1 y1, hq _ _ hb1 y2, hq _ _ hb1 y3, hq _ _ hb1 y4, hq _ _ hb2 z0, hq _ _ hb2 z1, hq _ _ hb2 z2, hq _ _ hb2 z3, hq _ _ hb2 z4, hq _ _ hb2 z5⟩
     replace hSk := hSk (by rfl)
     refine n_take (v := ?_) 12 rfl (Or.inl ⟨by rfl, ?_⟩) (by kernel_rfl) (fun _ _ _ h => h) (by assumption) ?_
     rotate_left 1
     ·(intro w' hSw; (try dsimp only at hSw); go_simp; try with_reducible rfl)
     simp only [Act.put, List.getElem_toArray, List.getElem_cons_zero, List.getElem_cons_succ, List.setIfInBounds_toArray, List.set_cons_zero, List.set_cons_succ]
     refine n_done (by kernel_rfl) ?_
     go_wp2_with fail
     go_meet
     exact ⟨(wb).heap.size, _, rfl, rfl, hkk.trans hsE (fun b e => .inr (by have e : b = (wb).heap.size := e; omega)), store6 hzz _ _ _ _ _ _, by rw [HX.out]; exact (hryz.chg hsE (fun b hb e => hb e)).mono (fun _ _ => trivial), by omega⟩
   ·go_wp2_with fail
    have hzk := hkk.size
    generalize hwz : World.alloc wa _ = wz
    have hcz : Chg NoB wa wz := by
     rw [← hwz]
     exact (Chg.refl _ _).alloc _
    have hzz : Blk wz (wa).heap.size (dmCells false 0 0 ⟨#[]⟩ (.slice none 0 0) (.slice none 0 0)) 43 := by
     rw [← hwz]
     exact Blk.newAt rfl
    clear hwz
    replace hck := hck.tr hcz
    replace hkk := hkk.tr hcz
    (try replace hrA := hrA.chg0 hcz)
    (try replace hrB := hrB.chg0 hcz)
    (try replace hrD := hrD.chg0 hcz)
    refine ⟨fun _ => ?_, fun hSk => ?_⟩
    ·have hq := Chg.keeps hkk
     exact ⟨hq _ _ x0, hq _ _ x1, hq _ _ x2, hq _ _ x3, hq _ _ x4, hq _ _ y0, hq _ _ y1, hq _ _ y2, hq _ _ y3, hq _ _ y4, hq _ _ z0, hq _ _ z1, hq _ _ z2, hq _ _ z3, hq _ _ z4, hq _ _ z5⟩
    replace hSk := hSk (by rfl)
    refine n_step 3 rfl (by kernel_rfl) ?_
    go_wp2_with fail
    refine (ownNode_any _ _ _ S _ (Nat.le_refl _) (Hrb.out.chg0 hck) Hokb.out).mono ?_
    rintro en wb ⟨csb, rfl, hrB, hcb⟩
    obtain ⟨vb, rfl, hsB⟩ := reads_nd.1 hrB
    obtain ⟨b1, bc1, rfl, _, _, _⟩ := reads_subs hsB
    clear hsB
    go_wp2_with fail
    replace hck := hck.tr hcb
    replace hkk := hkk.tr hcb
    replace hrA := hrA.chg0 hcb
    (try replace hzz := hzz.keep hcb NoB.elim)
    refine ⟨fun _ => ?_, fun hSk => ?_⟩
    ·have hq := Chg.keeps hkk
     exact ⟨hq _ _ x0, hq _ _ x1, hq _ _ x2, hq _ _ x3, hq _ _ x4, hq _ _ y0, hq _ _ y1, hq _ _ y2, hq _ _ y3, hq _ _ y4, hq _ _ z0, hq _ _ z1, hq _ _ z2, hq _ _ z3, hq _ _ z4, hq _ _ z5⟩
    replace hSk := hSk (by rfl)
    refine n_step 5 rfl (by kernel_rfl) ?_
    go_wp2_with fail
    refine (ownDatum_any _ _ _ S _ (Nat.le_refl _) (Hrd.out.chg0 hck) Hokd.out).mono ?_
    rintro en wd ⟨csd, rfl, hrD, hcd⟩
    obtain ⟨dl, df, rfl, hsD, hsE⟩ := reads_dm.1 hrD
    obtain ⟨d1, dc1, rfl, _, _, _⟩ := reads_data hsD
    obtain ⟨d2, dc2, rfl, _, _, _⟩ := reads_data hsE
    clear hsD hsE
    go_wp2_with fail
    replace hck := hck.tr hcd
    replace hkk := hkk.tr hcd
    replace hrA := hrA.chg0 hcd
    replace hrB := hrB.chg0 hcd
    (try replace hzz := hzz.keep hcd NoB.elim)
    refine ⟨fun _ => ?_, fun hSk => ?_⟩
    ·have hq := Chg.keeps hkk
     exact ⟨hq _ _ x0, hq _ _ x1, hq _ _ x2, hq _ _ x3, hq _ _ x4, hq _ _ y0, hq _ _ y1, hq _ _ y2, hq _ _ y3, hq _ _ y4, hq _ _ z0, hq _ _ z1, hq _ _ z2, hq _ _ z3, hq _ _ z4, hq _ _ z5⟩
    replace hSk := hSk (by rfl)
    have hzl2 := hzz.lt
    refine n_step 6 rfl (by kernel_rfl) ?_
    go_wp2_with fail
    refine (carry_any (.mk i nm rp kd sa) (.mk i' nm' rp' kd' sb) (.mk no k v s l f) wd (fun b => b < (wd).heap.size) _ _ _ E (sv (A 3)) (hE.keep0 hck) Hoka.out Hokb.out Hokd.out (hrA.lt.mono (fun b hb => hb.2)) (hrB.lt.mono (fun b hb => hb.2)) (hrD.lt.mono (fun b hb => hb.2)) (fun _ h => h)).mono ?_
    rintro en we ⟨ycs, rfl, hry, hce⟩
    generalize hX : (carryF (.mk i nm rp kd sa) (.mk i' nm' rp' kd' sb) (.mk no k v s l f)).2 = dx at hry
    have HX := Lib.hid hX
    clear hX
    obtain ⟨t9, tk, tn, ts, tl, tf⟩ := dx
    obtain ⟨vl5, vf5, rfl, hs8, hs9⟩ := reads_dm.1 hry
    obtain ⟨a5, c5, rfl, _, _, _⟩ := reads_data hs8
    obtain ⟨a6, c6, rfl, _, _, _⟩ := reads_data hs9
    clear hs8 hs9
    go_wp2_with fail
    replace hck := hck.tr hce
    replace hkk := hkk.tr hce
    refine ⟨fun _ => ?_, fun hSk => ?_⟩
    ·have hq := Chg.keeps hkk
     exact ⟨hq _ _ x0, hq _ _ x1, hq _ _ x2, hq _ _ x3, hq _ _ x4, hq _ _ y0, hq _ _ y1, hq _ _ y2, hq _ _ y3, hq _ _ y4, hq _ _ z0, hq _ _ z1, hq _ _ z2, hq _ _ z3, hq _ _ z4, hq _ _ z5⟩
    replace hSk := hSk (by rfl)
    refine n_take (v := ?_) 7 rfl (Or.inl ⟨by rfl, ?_⟩) (by kernel_rfl) (fun _ _ _ h => h) (by assumption) ?_
    rotate_left 1
    ·(intro w' hSw; (try dsimp only at hSw); go_simp; try with_reducible rfl)
    simp only [Act.put, List.getElem_toArray, List.getElem_cons_zero, List.getElem_cons_succ, List.setIfInBounds_toArray, List.set_cons_zero, List.set_cons_succ]
    refine n_take (v := ?_) 8 rfl (Or.inl ⟨by rfl, ?_⟩) (by kernel_rfl) (fun _ _ _ h => h) (by assumption) ?_
    rotate_left 1
    ·(intro w' hSw; (try dsimp only at hSw); go_simp; try with_reducible rfl)
    simp only [Act.put, List.getElem_toArray, List.getElem_cons_zero, List.getElem_cons_succ, List.setIfInBounds_toArray, List.set_cons_zero, List.set_cons_succ]
    refine n_take (v := ?_) 9 rfl (Or.inl ⟨by rfl, ?_⟩) (by kernel_rfl) (fun _ _ _ h => h) (by assumption) ?_
    rotate_left 1
    ·(intro w' hSw; (try dsimp only at hSw); go_simp; try with_reducible rfl)
    simp only [Act.put, List.getElem_toArray, List.getElem_cons_zero, List.getElem_cons_succ, List.setIfInBounds_toArray, List.set_cons_zero, List.set_cons_succ]
    replace hzz := hzz.keep hce NoB.elim
    have hryz := hry.mono (S' := fun b => b ≠ (wa).heap.size) (fun b hb => by have hb : _ ≤ b := hb; omega)
    refine n_step 11 rfl (by kernel_rfl) ?_
    have o0 : we.cell? ⟨(wa).heap.size, 0, none⟩ = some (.bool false) := hzz.cell 0
    have o1 : we.cell? ⟨(wa).heap.size, 1, none⟩ = some (.int .i64 (0)) := hzz.cell 1
    have o2 : we.cell? ⟨(wa).heap.size, 2, none⟩ = some (.int .i64 (0)) := hzz.cell 2
    have o3 : we.cell? ⟨(wa).heap.size, 3, none⟩ = some (.string ⟨#[]⟩) := hzz.cell 3
    have o4 : we.cell? ⟨(wa).heap.size, 4, none⟩ = some (.slice none 0 0) := hzz.cell 4
    have o5 : we.cell? ⟨(wa).heap.size, 5, none⟩ = some (.slice none 0 0) := hzz.cell 5
    have ff0 : we.frozen? ⟨(wa).heap.size, 0, none⟩ = false := hzz.free 0
    have ff1 : we.frozen? ⟨(wa).heap.size, 1, none⟩ = false := hzz.free 1
    have ff2 : we.frozen? ⟨(wa).heap.size, 2, none⟩ = false := hzz.free 2
    have ff3 : we.frozen? ⟨(wa).heap.size, 3, none⟩ = false := hzz.free 3
    have ff4 : we.frozen? ⟨(wa).heap.size, 4, none⟩ = false := hzz.free 4
    have ff5 : we.frozen? ⟨(wa).heap.size, 5, none⟩ = false := hzz.free 5
    go_wp2_with fail
    have hsE := store6_chg we (wa).heap.size (.bool t9) (.int .i64 tk) (.int .i64 tn) (.string ts) (.slice a5 tl.length c5) (.slice a6 tf.length c6)
    have hfi : Chg (OneB (wa).heap.size) w8 we := (Chg.refl (OneB (wa).heap.size) w8).trans hkk (fun b e => NoB.elim e)
    have hfin := hfi.trans hsE (fun b e => .inl e)
    refine ⟨fun _ => ?_, fun hSk => ?_⟩
    ·have hq := Chg.keepsOne hfin
     have hb0 : w.heap.size ≠ (wa).heap.size := by omega
     have hb1 : w.heap.size + 1 ≠ (wa).heap.size := by omega
     have hb2 : w.heap.size + 2 ≠ (wa).heap.size := by omega
     exact ⟨hq _ _ hb0 x0, hq _ _ hb0 x1, hq _ _ hb0 x2, hq _ _ hb0 x3, hq _ _ hb0 x4, hq _ _ hb1 y0, hq _ _ hb1 y1, hq _ _ hb1 y2, hq _ _ hb1 y3, hq _ _ hb1 y4, hq _ _ hb2 z0, hq _ _ hb2 z1, hq _ _ hb2 z2, hq _ _ hb2 z3, hq _ _ hb2 z4, hq _ _ hb2 z5⟩
    replace hSk := hSk (by rfl)
    refine n_take (v := ?_) 12 rfl (Or.inl ⟨by rfl, ?_⟩) (by kernel_rfl) (fun _ _ _ h => h) (by assumption) ?_
    rotate_left 1
    ·(intro w' hSw; (try dsimp only at hSw); go_simp; try with_reducible rfl)
    simp only [Act.put, List.getElem_toArray, List.getElem_cons_zero, List.getElem_cons_succ, List.setIfInBounds_toArray, List.set_cons_zero, List.set_cons_succ]
    refine n_done (by kernel_rfl) ?_
    go_wp2_with fail
    go_meet
    exact ⟨(wa).heap.size, _, rfl, rfl, hkk.trans hsE (fun b e => .inr (by have e : b = (wa).heap.size := e; omega)), store6 hzz _ _ _ _ _ _, by rw [HX.out]; exact (hryz.chg hsE (fun b hb e => hb e)).mono (fun _ _ => trivial), by omega⟩
  ·go_wp2_with fail
   have hzk := hkk.size
   generalize hwz : World.alloc wv _ = wz
   have hcz : Chg NoB wv wz := by
    rw [← hwz]
    exact (Chg.refl _ _).alloc _
   have hzz : Blk wz (wv).heap.size (dmCells false 0 0 ⟨#[]⟩ (.slice none 0 0) (.slice none 0 0)) 43 := by
    rw [← hwz]
    exact Blk.newAt rfl
   clear hwz
   replace hck := hck.tr hcz
   replace hkk := hkk.tr hcz
   (try replace hrA := hrA.chg0 hcz)
   (try replace hrB := hrB.chg0 hcz)
   (try replace hrD := hrD.chg0 hcz)
   have hq := Chg.keeps hkk
   have hSk := And.intro (hq _ _ x0) (And.intro (hq _ _ x1) (And.intro (hq _ _ x2) (And.intro (hq _ _ x3) (And.intro (hq _ _ x4) (And.intro (hq _ _ y0) (And.intro (hq _ _ y1) (And.intro (hq _ _ y2) (And.intro (hq _ _ y3) (And.intro (hq _ _ y4) (And.intro (hq _ _ z0) (And.intro (hq _ _ z1) (And.intro (hq _ _ z2) (And.intro (hq _ _ z3) (And.intro (hq _ _ z4) (hq _ _ z5)))))))))))))))
   first
    | refine ⟨fun _ => hSk, fun _ => ?_⟩
    | (refine ⟨hSk, ?_⟩; intro _ _ _ _ _ _ _ _ _ _ _ _ _ _ _ _)
   refine n_step 1 rfl (by kernel_rfl) ?_
   go_wp2_with fail
   refine (ownNode_any _ _ _ S _ (Nat.le_refl _) (Hra.out.chg0 hck) Hoka.out).mono ?_
   rintro en wa ⟨csa, rfl, hrA, hca⟩
   obtain ⟨va, rfl, hsA⟩ := reads_nd.1 hrA
   obtain ⟨a1, ac1, rfl, _, _, _⟩ := reads_subs hsA
   clear hsA
   go_wp2_with fail
   replace hck := hck.tr hca
   replace hkk := hkk.tr hca
   (try replace hzz := hzz.keep hca NoB.elim)
   refine ⟨fun _ => ?_, fun hSk => ?_⟩
   ·have hq := Chg.keeps hkk
    exact ⟨hq _ _ x0, hq _ _ x1, hq _ _ x2, hq _ _ x3, hq _ _ x4, hq _ _ y0, hq _ _ y1, hq _ _ y2, hq _ _ y3, hq _ _ y4, hq _ _ z0, hq _ _ z1, hq _ _ z2, hq _ _ z3, hq _ _ z4, hq _ _ z5⟩
   replace hSk := hSk (by rfl)
   refine n_step 3 rfl (by kernel_rfl) ?_
   go_wp2_with fail
   refine (ownNode_any _ _ _ S _ (Nat.le_refl _) (Hrb.out.chg0 hck) Hokb.out).mono ?_
   rintro en wb ⟨csb, rfl, hrB, hcb⟩
   obtain ⟨vb, rfl, hsB⟩ := reads_nd.1 hrB
   obtain ⟨b1, bc1, rfl, _, _, _⟩ := reads_subs hsB
   clear hsB
   go_wp2_with fail
   replace hck := hck.tr hcb
   replace hkk := hkk.tr hcb
   replace hrA := hrA.chg0 hcb
   (try replace hzz := hzz.keep hcb NoB.elim)
   refine ⟨fun _ => ?_, fun hSk => ?_⟩
   ·have hq := Chg.keeps hkk
    exact ⟨hq _ _ x0, hq _ _ x1, hq _ _ x2, hq _ _ x3, hq _ _ x4, hq _ _ y0, hq _ _ y1, hq _ _ y2, hq _ _ y3, hq _ _ y4, hq _ _ z0, hq _ _ z1, hq _ _ z2, hq _ _ z3, hq _ _ z4, hq _ _ z5⟩
   replace hSk := hSk (by rfl)
   refine n_step 5 rfl (by kernel_rfl) ?_
   go_wp2_with fail
   refine (ownDatum_any _ _ _ S _ (Nat.le_refl _) (Hrd.out.chg0 hck) Hokd.out).mono ?_
   rintro en wd ⟨csd, rfl, hrD, hcd⟩
   obtain ⟨dl, df, rfl, hsD, hsE⟩ := reads_dm.1 hrD
   obtain ⟨d1, dc1, rfl, _, _, _⟩ := reads_data hsD
   obtain ⟨d2, dc2, rfl, _, _, _⟩ := reads_data hsE
   clear hsD hsE
   go_wp2_with fail
   replace hck := hck.tr hcd
   replace hkk := hkk.tr hcd
   replace hrA := hrA.chg0 hcd
   replace hrB := hrB.chg0 hcd
   (try replace hzz := hzz.keep hcd NoB.elim)
   refine ⟨fun _ => ?_, fun hSk => ?_⟩
   ·have hq := Chg.keeps hkk
    exact ⟨hq _ _ x0, hq _ _ x1, hq _ _ x2, hq _ _ x3, hq _ _ x4, hq _ _ y0, hq _ _ y1, hq _ _ y2, hq _ _ y3, hq _ _ y4, hq _ _ z0, hq _ _ z1, hq _ _ z2, hq _ _ z3, hq _ _ z4, hq _ _ z5⟩
   replace hSk := hSk (by rfl)
   have hzl2 := hzz.lt
   refine n_step 6 rfl (by kernel_rfl) ?_
   go_wp2_with fail
   refine (carry_any (.mk i nm rp kd sa) (.mk i' nm' rp' kd' sb) (.mk no k v s l f) wd (fun b => b < (wd).heap.size) _ _ _ E (sv (A 3)) (hE.keep0 hck) Hoka.out Hokb.out Hokd.out (hrA.lt.mono (fun b hb => hb.2)) (hrB.lt.mono (fun b hb => hb.2)) (hrD.lt.mono (fun b hb => hb.2)) (fun _ h => h)).mono ?_
   rintro en we ⟨ycs, rfl, hry, hce⟩
   generalize hX : (carryF (.mk i nm rp kd sa) (.mk i' nm' rp' kd' sb) (.mk no k v s l f)).2 = dx at hry
   have HX := Lib.hid hX
   clear hX
   obtain ⟨t9, tk, tn, ts, tl, tf⟩ := dx
   obtain ⟨vl5, vf5, rfl, hs8, hs9⟩ := reads_dm.1 hry
   obtain ⟨a5, c5, rfl, _, _, _⟩ := reads_data hs8
   obtain ⟨a6, c6, rfl, _, _, _⟩ := reads_data hs9
   clear hs8 hs9
   go_wp2_with fail
   replace hck := hck.tr hce
   replace hkk := hkk.tr hce
   refine ⟨fun _ => ?_, fun hSk => ?_⟩
   ·have hq := Chg.keeps hkk
    exact ⟨hq _ _ x0, hq _ _ x1, hq _ _ x2, hq _ _ x3, hq _ _ x4, hq _ _ y0, hq _ _ y1, hq _ _ y2, hq _ _ y3, hq _ _ y4, hq _ _ z0, hq _ _ z1, hq _ _ z2, hq _ _ z3, hq _ _ z4, hq _ _ z5⟩
   replace hSk := hSk (by rfl)
   refine n_take (v := ?_) 7 rfl (Or.inl ⟨by rfl, ?_⟩) (by kernel_rfl) (fun _ _ _ h => h) (by assumption) ?_
   rotate_left 1
   ·(intro w' hSw; (try dsimp only at hSw); go_simp; try with_reducible rfl)
   simp only [Act.put, List.getElem_toArray, List.getElem_cons_zero, List.getElem_cons_succ, List.setIfInBounds_toArray, List.set_cons_zero, List.set_cons_succ]
   refine n_take (v := ?_) 8 rfl (Or.inl ⟨by rfl, ?_⟩) (by kernel_rfl) (fun _ _ _ h => h) (by assumption) ?_
   rotate_left 1
   ·(intro w' hSw; (try dsimp only at hSw); go_simp; try with_reducible rfl)
   simp only [Act.put, List.getElem_toArray, List.getElem_cons_zero, List.getElem_cons_succ, List.setIfInBounds_toArray, List.set_cons_zero, List.set_cons_succ]
   refine n_take (v := ?_) 9 rfl (Or.inl ⟨by rfl, ?_⟩) (by kernel_rfl) (fun _ _ _ h => h) (by assumption) ?_
   rotate_left 1
   ·(intro w' hSw; (try dsimp only at hSw); go_simp; try with_reducible rfl)
   simp only [Act.put, List.getElem_toArray, List.getElem_cons_zero, List.getElem_cons_succ, List.setIfInBounds_toArray, List.set_cons_zero, List.set_cons_succ]
   replace hzz := hzz.keep hce NoB.elim
   have hryz := hry.mono (S' := fun b => b ≠ (wv).heap.size) (fun b hb => by have hb : _ ≤ b := hb; omega)
   refine n_step 11 rfl (by kernel_rfl) ?_
   have o0 : we.cell? ⟨(wv).heap.size, 0, none⟩ = some (.bool false) := hzz.cell 0
   have o1 : we.cell? ⟨(wv).heap.size, 1, none⟩ = some (.int .i64 (0)) := hzz.cell 1
   have o2 : we.cell? ⟨(wv).heap.size, 2, none⟩ = some (.int .i64 (0)) := hzz.cell 2
   have o3 : we.cell? ⟨(wv).heap.size, 3, none⟩ = some (.string ⟨#[]⟩) := hzz.cell 3
   have o4 : we.cell? ⟨(wv).heap.size, 4, none⟩ = some (.slice none 0 0) := hzz.cell 4
   have o5 : we.cell? ⟨(wv).heap.size, 5, none⟩ = some (.slice none 0 0) := hzz.cell 5
   have ff0 : we.frozen? ⟨(wv).heap.size, 0, none⟩ = false := hzz.free 0
   have ff1 : we.frozen? ⟨(wv).heap.size, 1, none⟩ = false := hzz.free 1
   have ff2 : we.frozen? ⟨(wv).heap.size, 2, none⟩ = false := hzz.free 2
   have ff3 : we.frozen? ⟨(wv).heap.size, 3, none⟩ = false := hzz.free 3
   have ff4 : we.frozen? ⟨(wv).heap.size, 4, none⟩ = false := hzz.free 4
   have ff5 : we.frozen? ⟨(wv).heap.size, 5, none⟩ = false := hzz.free 5
   go_wp2_with fail
   have hsE := store6_chg we (wv).heap.size (.bool t9) (.int .i64 tk) (.int .i64 tn) (.string ts) (.slice a5 tl.length c5) (.slice a6 tf.length c6)
   have hfi : Chg (OneB (wv).heap.size) w8 we := (Chg.refl (OneB (wv).heap.size) w8).trans hkk (fun b e => NoB.elim e)
   have hfin := hfi.trans hsE (fun b e => .inl e)
   refine ⟨fun _ => ?_, fun hSk => ?_⟩
   ·have hq := Chg.keepsOne hfin
    have hb0 : w.heap.size ≠ (wv).heap.size := by omega
    have hb1 : w.heap.size + 1 ≠ (wv).heap.size := by omega
    have hb2 : w.heap.size + 2 ≠ (wv).heap.size := by omega
    exact ⟨hq _ _ hb0 x0, hq _ _ hb0 x1, hq _ _ hb0 x2, hq _ _ hb0 x3, hq _ _ hb0 x4, hq _ _ hb1 y0, hq _ _ hb1 y1, hq _ _ hb1 y2, hq _ _ hb1 y3, hq _ _ hb1 y4, hq _ _ hb2 z0, hq _ _ hb2 z1, hq _ _ hb2 z2, hq _ _ hb2 z3, hq _ _ hb2 z4, hq _ _ hb2 z5⟩
   replace hSk := hSk (by rfl)
   refine n_take (v := ?_) 12 rfl (Or.inl ⟨by rfl, ?_⟩) (by kernel_rfl) (fun _ _ _ h => h) (by assumption) ?_
   rotate_left 1
   ·(intro w' hSw; (try dsimp only at hSw); go_simp; try with_reducible rfl)
   simp only [Act.put, List.getElem_toArray, List.getElem_cons_zero, List.getElem_cons_succ, List.setIfInBounds_toArray, List.set_cons_zero, List.set_cons_succ]
   refine n_done (by kernel_rfl) ?_
   go_wp2_with fail
   go_meet
   exact ⟨(wv).heap.size, _, rfl, rfl, hkk.trans hsE (fun b e => .inr (by have e : b = (wv).heap.size := e; omega)), store6 hzz _ _ _ _ _ _, by rw [HX.out]; exact (hryz.chg hsE (fun b hb e => hb e)).mono (fun _ _ => trivial), by omega⟩
 case rest =>
 obtain ⟨zb, c6, rfl, rfl, hcx, hzb, hrz, hzlo⟩ := hcut
 cases hpre : preF (.mk i nm rp kd sa) (.mk i' nm' rp' kd' sb) (.mk no k v s l f) with
 | some r =>
  rw [carry_pre hpre] at hrz ⊢
  have Htold := Lib.hid (hA.toldK r)
  obtain ⟨hp1, hp2⟩ := ekNum_pos r
  dsimp only at hrz ⊢
  clear hpre Hcar
  generalize ekNum (some r) = ne at hp1 hp2 Htold ⊢
  obtain ⟨vl8, vf8, rfl, hs8, hs9⟩ := reads_dm.1 hrz
  obtain ⟨a8, c8, hq8, _, _, _⟩ := reads_data hs8
  obtain ⟨a9, c9, hq9, _, _, _⟩ := reads_data hs9
  have hq8 : vl8 = .slice a8 0 c8 := hq8
  have hq9 : vf8 = .slice a9 0 c9 := hq9
  subst hq8
  subst hq9
  clear hs8 hs9
  have hcw := hck.tr hcx
  have o0 : wc.cell? ⟨zb, 0, none⟩ = some (.bool false) := hzb.cell 0
  have o1 : wc.cell? ⟨zb, 1, none⟩ = some (.int .i64 (0)) := hzb.cell 1
  have o2 : wc.cell? ⟨zb, 2, none⟩ = some (.int .i64 (0)) := hzb.cell 2
  have o3 : wc.cell? ⟨zb, 3, none⟩ = some (.string ⟨#[]⟩) := hzb.cell 3
  have o4 : wc.cell? ⟨zb, 4, none⟩ = some (.slice a8 0 c8) := hzb.cell 4
  have o5 : wc.cell? ⟨zb, 5, none⟩ = some (.slice a9 0 c9) := hzb.cell 5
  go_wp2_with fail
  refine (coded4_yes _ _ wc A (hA.sents.keep0 hcw) (told_keep0 Htold.out hcw) ⟨by omega, by omega⟩).mono ?_
  rintro en wp ⟨rfl, hcp⟩
  have hzp := hzb.keep hcp NoB.elim
  clear o0 o1 o2 o3 o4 o5
  have o0 : wp.cell? ⟨zb, 0, none⟩ = some (.bool false) := hzp.cell 0
  have o1 : wp.cell? ⟨zb, 1, none⟩ = some (.int .i64 (0)) := hzp.cell 1
  have o2 : wp.cell? ⟨zb, 2, none⟩ = some (.int .i64 (0)) := hzp.cell 2
  have o3 : wp.cell? ⟨zb, 3, none⟩ = some (.string ⟨#[]⟩) := hzp.cell 3
  have o4 : wp.cell? ⟨zb, 4, none⟩ = some (.slice a8 0 c8) := hzp.cell 4
  have o5 : wp.cell? ⟨zb, 5, none⟩ = some (.slice a9 0 c9) := hzp.cell 5
  go_wp2_with fail
  refine (sameDatum_yes _ zeroDm wp (fun _ => True) (fun _ => False) _ _ (Nat.le_refl _) (hrz.chg0 hcp) (zero_dm wp (fun _ => False))).mono ?_
  rintro en wq ⟨rfl, hcq⟩
  go_wp2_with fail
  go_ret
  exact ⟨rfl, (hcw.tr hcp).tr hcq⟩
 | none =>
 obtain ⟨hrec, hvb⟩ := pre_none hpre
 have Hrec := Lib.hid hrec
 have Hvb := Lib.hid hvb
 cases hsame : sameF (knOf (.mk i nm rp kd sa)) (knOf (.mk i' nm' rp' kd' sb)) with
 | false =>
  rw [carryF_no hrec hvb hsame] at hrz ⊢
  have Htold := Lib.hid (hA.toldK .kind)
  have hp1 : (0 : Int) < 4 := by decide
  have hp2 : (4 : Int) ≤ 5 := by decide
  rw [show ekNum (some .kind) = 4 from rfl] at Htold
  dsimp only at hrz ⊢
  rw [show ekNum (some .kind) = 4 from rfl]
  clear hpre Hcar hrec hvb hsame
  obtain ⟨vl8, vf8, rfl, hs8, hs9⟩ := reads_dm.1 hrz
  obtain ⟨a8, c8, hq8, _, _, _⟩ := reads_data hs8
  obtain ⟨a9, c9, hq9, _, _, _⟩ := reads_data hs9
  have hq8 : vl8 = .slice a8 0 c8 := hq8
  have hq9 : vf8 = .slice a9 0 c9 := hq9
  subst hq8
  subst hq9
  clear hs8 hs9
  have hcw := hck.tr hcx
  have o0 : wc.cell? ⟨zb, 0, none⟩ = some (.bool false) := hzb.cell 0
  have o1 : wc.cell? ⟨zb, 1, none⟩ = some (.int .i64 (0)) := hzb.cell 1
  have o2 : wc.cell? ⟨zb, 2, none⟩ = some (.int .i64 (0)) := hzb.cell 2
  have o3 : wc.cell? ⟨zb, 3, none⟩ = some (.string ⟨#[]⟩) := hzb.cell 3
  have o4 : wc.cell? ⟨zb, 4, none⟩ = some (.slice a8 0 c8) := hzb.cell 4
  have o5 : wc.cell? ⟨zb, 5, none⟩ = some (.slice a9 0 c9) := hzb.cell 5
  go_wp2_with fail
  refine (coded4_yes _ _ wc A (hA.sents.keep0 hcw) (told_keep0 Htold.out hcw) ⟨by omega, by omega⟩).mono ?_
  rintro en wp ⟨rfl, hcp⟩
  have hzp := hzb.keep hcp NoB.elim
  clear o0 o1 o2 o3 o4 o5
  have o0 : wp.cell? ⟨zb, 0, none⟩ = some (.bool false) := hzp.cell 0
  have o1 : wp.cell? ⟨zb, 1, none⟩ = some (.int .i64 (0)) := hzp.cell 1
  have o2 : wp.cell? ⟨zb, 2, none⟩ = some (.int .i64 (0)) := hzp.cell 2
  have o3 : wp.cell? ⟨zb, 3, none⟩ = some (.string ⟨#[]⟩) := hzp.cell 3
  have o4 : wp.cell? ⟨zb, 4, none⟩ = some (.slice a8 0 c8) := hzp.cell 4
  have o5 : wp.cell? ⟨zb, 5, none⟩ = some (.slice a9 0 c9) := hzp.cell 5
  go_wp2_with fail
  refine (sameDatum_yes _ zeroDm wp (fun _ => True) (fun _ => False) _ _ (Nat.le_refl _) (hrz.chg0 hcp) (zero_dm wp (fun _ => False))).mono ?_
  rintro en wq ⟨rfl, hcq⟩
  go_wp2_with fail
  go_ret
  exact ⟨rfl, (hcw.tr hcp).tr hcq⟩
 | true =>
  rw [carryF_yes hrec hvb hsame] at hrz ⊢
  dsimp only at hrz ⊢
  rw [ek_none]
  clear hpre Hcar hrec hvb hsame
  rw [show ekVal E (sv (A 3)) none = .nilIface from rfl]
  generalize hX : moveF (.mk no k v s l f) (.mk i nm rp kd sa) (.mk i' nm' rp' kd' sb) false = dx at hrz
  have HX := Lib.hid hX
  clear hX
  have Hrz := Lib.hid hrz
  obtain ⟨t9, tk, tn, ts, tl, tf⟩ := dx
  obtain ⟨vl8, vf8, rfl, hs8, hs9⟩ := reads_dm.1 hrz
  obtain ⟨a8, c8, rfl, _, _, _⟩ := reads_data hs8
  obtain ⟨a9, c9, rfl, _, _, _⟩ := reads_data hs9
  clear hs8 hs9 hrz
  have hcw := hck.tr hcx
  replace hx := hx.keep hcx NoB.elim
  replace hy := hy.keep hcx NoB.elim
  replace hz := hz.keep hcx NoB.elim
  (try clear x0 x1 x2 x3 x4 y0 y1 y2 y3 y4 z0 z1 z2 z3 z4 z5)
  have x0 : wc.cell? ⟨w.heap.size, 0, none⟩ = some (.int .i64 (i)) := hx.cell 0
  have x1 : wc.cell? ⟨w.heap.size, 1, none⟩ = some (.string nm) := hx.cell 1
  have x2 : wc.cell? ⟨w.heap.size, 2, none⟩ = some (.int .i64 (rp)) := hx.cell 2
  have x3 : wc.cell? ⟨w.heap.size, 3, none⟩ = some (.int .i64 (kd)) := hx.cell 3
  have x4 : wc.cell? ⟨w.heap.size, 4, none⟩ = some (.slice aa sa.length ac) := hx.cell 4
  have y0 : wc.cell? ⟨w.heap.size + 1, 0, none⟩ = some (.int .i64 (i')) := hy.cell 0
  have y1 : wc.cell? ⟨w.heap.size + 1, 1, none⟩ = some (.string nm') := hy.cell 1
  have y2 : wc.cell? ⟨w.heap.size + 1, 2, none⟩ = some (.int .i64 (rp')) := hy.cell 2
  have y3 : wc.cell? ⟨w.heap.size + 1, 3, none⟩ = some (.int .i64 (kd')) := hy.cell 3
  have y4 : wc.cell? ⟨w.heap.size + 1, 4, none⟩ = some (.slice ba sb.length bc) := hy.cell 4
  have z0 : wc.cell? ⟨w.heap.size + 2, 0, none⟩ = some (.bool no) := hz.cell 0
  have z1 : wc.cell? ⟨w.heap.size + 2, 1, none⟩ = some (.int .i64 (k)) := hz.cell 1
  have z2 : wc.cell? ⟨w.heap.size + 2, 2, none⟩ = some (.int .i64 (v)) := hz.cell 2
  have z3 : wc.cell? ⟨w.heap.size + 2, 3, none⟩ = some (.string s) := hz.cell 3
  have z4 : wc.cell? ⟨w.heap.size + 2, 4, none⟩ = some (.slice al l.length cl) := hz.cell 4
  have z5 : wc.cell? ⟨w.heap.size + 2, 5, none⟩ = some (.slice af f.length cf) := hz.cell 5
  have o0 : wc.cell? ⟨zb, 0, none⟩ = some (.bool t9) := hzb.cell 0
  have o1 : wc.cell? ⟨zb, 1, none⟩ = some (.int .i64 (tk)) := hzb.cell 1
  have o2 : wc.cell? ⟨zb, 2, none⟩ = some (.int .i64 (tn)) := hzb.cell 2
  have o3 : wc.cell? ⟨zb, 3, none⟩ = some (.string ts) := hzb.cell 3
  have o4 : wc.cell? ⟨zb, 4, none⟩ = some (.slice a8 tl.length c8) := hzb.cell 4
  have o5 : wc.cell? ⟨zb, 5, none⟩ = some (.slice a9 tf.length c9) := hzb.cell 5
  go_wp2_with fail
  refine wp_region_n (fun w' => w'.cell? ⟨w.heap.size, 0, none⟩ = some (.int .i64 i) ∧ w'.cell? ⟨w.heap.size, 1, none⟩ = some (.string nm) ∧ w'.cell? ⟨w.heap.size, 2, none⟩ = some (.int .i64 rp) ∧ w'.cell? ⟨w.heap.size, 3, none⟩ = some (.int .i64 kd) ∧ w'.cell? ⟨w.heap.size, 4, none⟩ = some (.slice aa sa.length ac) ∧ w'.cell? ⟨w.heap.size + 1, 0, none⟩ = some (.int .i64 i') ∧ w'.cell? ⟨w.heap.size + 1, 1, none⟩ = some (.string nm') ∧ w'.cell? ⟨w.heap.size + 1, 2, none⟩ = some (.int .i64 rp') ∧ w'.cell? ⟨w.heap.size + 1, 3, none⟩ = some (.int .i64 kd') ∧ w'.cell? ⟨w.heap.size + 1, 4, none⟩ = some (.slice ba sb.length bc) ∧ w'.cell? ⟨w.heap.size + 2, 0, none⟩ = some (.bool no) ∧ w'.cell? ⟨w.heap.size + 2, 1, none⟩ = some (.int .i64 k) ∧ w'.cell? ⟨w.heap.size + 2, 2, none⟩ = some (.int .i64 v) ∧ w'.cell? ⟨w.heap.size + 2, 3, none⟩ = some (.string s) ∧ w'.cell? ⟨w.heap.size + 2, 4, none⟩ = some (.slice al l.length cl) ∧ w'.cell? ⟨w.heap.size + 2, 5, none⟩ = some (.slice af f.length cf) ∧ w'.cell? ⟨zb, 0, none⟩ = some (.bool t9) ∧ w'.cell? ⟨zb, 1, none⟩ = some (.int .i64 tk) ∧ w'.cell? ⟨zb, 2, none⟩ = some (.int .i64 tn) ∧ w'.cell? ⟨zb, 3, none⟩ = some (.string ts) ∧ w'.cell? ⟨zb, 4, none⟩ = some (.slice a8 tl.length c8) ∧ w'.cell? ⟨zb, 5, none⟩ = some (.slice a9 tf.length c9)) [] (by kernel_rfl) ?_ (fun hSh => ?_)
  ·exact ⟨x0, x1, x2, x3, x4, y0, y1, y2, y3, y4, z0, z1, z2, z3, z4, z5, o0, o1, o2, o3, o4, o5⟩
  refine n_take (v := ?_) 0 rfl (Or.inl ⟨by rfl, ?_⟩) (by kernel_rfl) (fun _ _ _ h => h) (by assumption) ?_
  rotate_left 1
  ·(intro w' hSw; (try dsimp only at hSw); go_simp; try with_reducible rfl)
  simp only [Act.put, List.getElem_toArray, List.getElem_cons_zero, List.getElem_cons_succ, List.setIfInBounds_toArray, List.set_cons_zero, List.set_cons_succ]
  refine n_take (v := ?_) 1 rfl (Or.inl ⟨by rfl, ?_⟩) (by kernel_rfl) (fun _ _ _ h => h) (by assumption) ?_
  rotate_left 1
  ·(intro w' hSw; (try dsimp only at hSw); go_simp; try with_reducible rfl)
  simp only [Act.put, List.getElem_toArray, List.getElem_cons_zero, List.getElem_cons_succ, List.setIfInBounds_toArray, List.set_cons_zero, List.set_cons_succ]
  refine n_take (v := ?_) 2 rfl (Or.inl ⟨by rfl, ?_⟩) (by kernel_rfl) (fun _ _ _ h => h) (by assumption) ?_
  rotate_left 1
  ·(intro w' hSw; (try dsimp only at hSw); go_simp; try with_reducible rfl)
  simp only [Act.put, List.getElem_toArray, List.getElem_cons_zero, List.getElem_cons_succ, List.setIfInBounds_toArray, List.set_cons_zero, List.set_cons_succ]
  refine n_take (v := ?_) 3 rfl (Or.inl ⟨by rfl, ?_⟩) (by kernel_rfl) (fun _ _ _ h => h) (by assumption) ?_
  rotate_left 1
  ·(intro w' hSw; (try dsimp only at hSw); go_simp; try with_reducible rfl)
  simp only [Act.put, List.getElem_toArray, List.getElem_cons_zero, List.getElem_cons_succ, List.setIfInBounds_toArray, List.set_cons_zero, List.set_cons_succ]
  refine n_take (v := ?_) 4 rfl (Or.inl ⟨by rfl, ?_⟩) (by kernel_rfl) (fun _ _ _ h => h) (by assumption) ?_
  rotate_left 1
  ·(intro w' hSw; (try dsimp only at hSw); go_simp; try with_reducible rfl)
  simp only [Act.put, List.getElem_toArray, List.getElem_cons_zero, List.getElem_cons_succ, List.setIfInBounds_toArray, List.set_cons_zero, List.set_cons_succ]
  refine n_take (v := ?_) 5 rfl (Or.inl ⟨by rfl, ?_⟩) (by kernel_rfl) (fun _ _ _ h => h) (by assumption) ?_
  rotate_left 1
  ·(intro w' hSw; (try dsimp only at hSw); go_simp; try with_reducible rfl)
  simp only [Act.put, List.getElem_toArray, List.getElem_cons_zero, List.getElem_cons_succ, List.setIfInBounds_toArray, List.set_cons_zero, List.set_cons_succ]
  refine n_take (v := ?_) 6 rfl (Or.inl ⟨by rfl, ?_⟩) (by kernel_rfl) (fun _ _ _ h => h) (by assumption) ?_
  rotate_left 1
  ·(intro w' hSw; (try dsimp only at hSw); go_simp; try with_reducible rfl)
  simp only [Act.put, List.getElem_toArray, List.getElem_cons_zero, List.getElem_cons_succ, List.setIfInBounds_toArray, List.set_cons_zero, List.set_cons_succ]
  refine n_step 7 rfl (by kernel_rfl) ?_
  go_wp2_with fail
  have hrv := recF_valid Hrec.out
  refine (carryOf_any _ _ _ _ false wc.drew S S S _ _ _ (Nat.le_refl _) (Hra.out.chg0 hcw.drew) (Hrb.out.chg0 hcw.drew) (Hrd.out.chg0 hcw.drew) (fitN_of hrv.1 Hoka.out) (fitN_of Hvb.out Hokb.out) hrv.2).mono ?_
  clear hrv
  rintro en wp ⟨pcs, rfl, hrp, hcp⟩
  rw [HX.out] at hrp
  have Hrp := Lib.hid hrp
  obtain ⟨vl7, vf7, rfl, hs8, hs9⟩ := reads_dm.1 hrp
  obtain ⟨a7, c7, rfl, _, _, _⟩ := reads_data hs8
  obtain ⟨a6, c6, rfl, _, _, _⟩ := reads_data hs9
  clear hs8 hs9 hrp
  replace hcp := hcp.ofDrew
  go_wp2_with fail
  refine ⟨fun _ => ?_, fun hSk => ?_⟩
  ·(repeat' refine And.intro ?_ ?_) <;> exact (hcp.cell (lt_of_cell (by assumption)) NoB.elim).trans (by assumption)
  replace hSk := hSk (by rfl)
  refine n_step 8 rfl (by kernel_rfl) ?_
  go_wp2_with fail
  refine (sameDatum_yes _ (.mk t9 tk tn ts tl tf) wp (fun _ => True) _ _ _ (Nat.le_refl _) (Hrz.out.chg0 hcp) Hrp.out).mono ?_
  rintro en wq ⟨rfl, hcq⟩
  have hcpq := hcp.tr hcq
  go_wp2_with fail
  refine ⟨fun _ => ?_, fun hSk => ?_⟩
  ·(repeat' refine And.intro ?_ ?_) <;> exact (hcpq.cell (lt_of_cell (by assumption)) NoB.elim).trans (by assumption)
  replace hSk := hSk (by rfl)
  refine n_take (v := ?_) 9 rfl (Or.inl ⟨by rfl, ?_⟩) (by kernel_rfl) (fun _ _ _ h => h) (by assumption) ?_
  rotate_left 1
  ·(intro w' hSw; (try dsimp only at hSw); go_simp; try with_reducible rfl)
  simp only [Act.put, List.getElem_toArray, List.getElem_cons_zero, List.getElem_cons_succ, List.setIfInBounds_toArray, List.set_cons_zero, List.set_cons_succ]
  refine n_take (v := ?_) 10 rfl (Or.inl ⟨by rfl, ?_⟩) (by kernel_rfl) (fun _ _ _ h => h) (by assumption) ?_
  rotate_left 1
  ·(intro w' hSw; (try dsimp only at hSw); go_simp; try with_reducible rfl)
  simp only [Act.put, List.getElem_toArray, List.getElem_cons_zero, List.getElem_cons_succ, List.setIfInBounds_toArray, List.set_cons_zero, List.set_cons_succ]
  refine n_done (by kernel_rfl) ?_
  go_wp2_with fail
  go_ret
  exact ⟨rfl, hcw.tr hcpq⟩
end Go.Proofs.YtgcmfpcgmkkobaaGreatDoor
