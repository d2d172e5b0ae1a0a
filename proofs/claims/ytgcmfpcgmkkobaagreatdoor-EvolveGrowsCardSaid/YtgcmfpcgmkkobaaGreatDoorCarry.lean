/-
  data.Check, shredcolref2.RecordError and evolve.Carry.
-/
import Derived.Test.YtgcmfpcgmkkobaaGreatDoorMove
import Derived.Test.YtgcmfpcgmkkobaaGreatDoorRight
import Derived.Test.YtgcmfpcgmkkobaaGreatDoorShort
import Derived.Test.YtgcmfpcgmkkobaaGreatDoorTree
import Derived.Test.YtgcmfpcgmkkobaaGreatDoorTwiceP
import Derived.Test.YtgcmfpcgmkkobaaGreatDoorValid2
import Derived.Test.YtgcmfpcgmkkobaaGreatDoorSame
set_option linter.unusedVariables false
set_option maxHeartbeats 20000000
set_option maxRecDepth 100000
set_option linter.unusedSimpArgs false
namespace Go.Proofs.YtgcmfpcgmkkobaaGreatDoor
open Go.RowKit
def recF (a : Nd) (d : Dm) : Option Ek :=
 match validF a with
 | some e => some (.er e)
 | none => rightF d a false
def zeroDm : Dm := .mk false 0 0 ⟨#[]⟩ [] []
def carryF (a b : Nd) (d : Dm) : Option Ek × Dm :=
 match recF a d with
 | some e => (some e, zeroDm)
 | none => match validF b with
  | some e => (some (.er e), zeroDm)
  | none => if sameF (knOf a) (knOf b) then (none, moveF d a b false) else (some .kind, zeroDm)
theorem recF_some {a : Nd} {d : Dm} {e : Er} (h : validF a = some e) : recF a d = some (.er e) := by unfold recF; rw [h]
theorem recF_none {a : Nd} {d : Dm} (h : validF a = none) : recF a d = rightF d a false := by unfold recF; rw [h]
theorem recF_valid {a : Nd} {d : Dm} (h : recF a d = none) : validF a = none ∧ rightF d a false = none := by
 cases hv : validF a with
 | some e => rw [recF_some hv] at h; cases h
 | none => rw [recF_none hv] at h; exact ⟨rfl, h⟩
theorem carryF_rec {a b : Nd} {d : Dm} {e : Ek} (h : recF a d = some e) : carryF a b d = (some e, zeroDm) := by unfold carryF; rw [h]
theorem carryF_to {a b : Nd} {d : Dm} {e : Er} (h : recF a d = none) (h2 : validF b = some e) : carryF a b d = (some (.er e), zeroDm) := by unfold carryF; rw [h, h2]
theorem carryF_no {a b : Nd} {d : Dm} (h : recF a d = none) (h2 : validF b = none) (h3 : sameF (knOf a) (knOf b) = false) : carryF a b d = (some .kind, zeroDm) := by unfold carryF; rw [h, h2, h3]; rfl
theorem carryF_yes {a b : Nd} {d : Dm} (h : recF a d = none) (h2 : validF b = none) (h3 : sameF (knOf a) (knOf b) = true) : carryF a b d = (none, moveF d a b false) := by unfold carryF; rw [h, h2, h3]; rfl
theorem check_any (a : Nd) (d : Dm) (w : World) (S S' : Nat → Prop) (ca cd : List Value) (E : Er → Value) (K : Value) (hE : Eks w E K) (hoka : a.ok) (hokd : d.ok) (hra : Reads w S a.dt ca) (hrd : Reads w S' d.dt cd) (hSB : ∀ b, S b → b < w.heap.size) :
  Calls Tryz.prog 22 #[.agg ca.toArray, .agg cd.toArray] w (RetV (ekVal E K (recF a d)) w) := by
 have Hra := Lib.hid hra
 have Hrd := Lib.hid hrd
 have Hoka := Lib.hid hoka
 have Hokd := Lib.hid hokd
 clear hoka hokd
 obtain ⟨i, nm, rp, kd, sa⟩ := a
 obtain ⟨no, k, v, s, l, f⟩ := d
 obtain ⟨va, rfl, hsa⟩ := reads_nd.1 hra
 obtain ⟨vl, vf, rfl, hsl, hsf⟩ := reads_dm.1 hrd
 obtain ⟨aa, ac, rfl, _, _, _⟩ := reads_subs hsa
 obtain ⟨al, cl, rfl, _, _, _⟩ := reads_data hsl
 obtain ⟨af, cf, rfl, _, _, _⟩ := reads_data hsf
 clear hsa hsl hsf hra hrd
 go_enter Tryz.func22, Tryz.ntmps22
 go_wp2_with fail
 generalize hw1 : World.alloc _ _ = w1
 have hc1 : Chg NoB w w1 := by
  rw [← hw1]
  repeat (first | exact Chg.refl _ _ | apply Chg.alloc | apply Chg.drew)
 have hx1 : Blk w1 (w.heap.size) (ndCells i nm rp kd (.slice aa sa.length ac)) 28 := by
  rw [← hw1]
  repeat (first | exact Blk.newAt (by first | rfl | (simp; done) | (simp; omega)) | apply Blk.alloc | apply Blk.drew)
 have hy1 : Blk w1 (w.heap.size + 1) (dmCells no k v s (.slice al l.length cl) (.slice af f.length cf)) 43 := by
  rw [← hw1]
  repeat (first | exact Blk.newAt (by first | rfl | (simp; done) | (simp; omega)) | apply Blk.alloc | apply Blk.drew)
 clear hw1
 have hE1 := hE.keep0 hc1
 refine (valid_any _ w1 S _ E hE1.errs Hoka.out (Hra.out.chg0 hc1) (fun b hb => Nat.lt_of_lt_of_le (hSB b hb) hc1.size)).mono ?_
 rintro en w2 ⟨rfl, hc2⟩
 have hc02 := hc1.tr hc2
 cases hv : validF (.mk i nm rp kd sa) with
 | some e =>
  obtain ⟨T, u, hTu⟩ := hE.errs.form e
  have Hv := Lib.hid (show Value.iface T u = ekVal E K (recF (.mk i nm rp kd sa) (.mk no k v s l f)) by rw [recF_some hv]; exact hTu.symm)
  rw [show errVal E (some e) = .iface T u from hTu]
  clear hv hTu
  go_wp2_with fail
  go_ret
  exact ⟨congrArg Ending.returned Hv.out, hc02⟩
 | none =>
  have Hv := Lib.hid (recF_none (d := .mk no k v s l f) hv)
  have hfit := fitN_of hv Hoka.out
  have Hsh := Lib.hid hfit.shape
  rw [show errVal E none = .nilIface from rfl]
  clear hv hfit
  have hx2 := hx1.keep hc2 nbE
  have hy2 := hy1.keep hc2 nbE
  have x0 : w2.cell? ⟨w.heap.size, 0, none⟩ = some (.int .i64 (i)) := hx2.cell 0
  have x1 : w2.cell? ⟨w.heap.size, 1, none⟩ = some (.string nm) := hx2.cell 1
  have x2 : w2.cell? ⟨w.heap.size, 2, none⟩ = some (.int .i64 (rp)) := hx2.cell 2
  have x3 : w2.cell? ⟨w.heap.size, 3, none⟩ = some (.int .i64 (kd)) := hx2.cell 3
  have x4 : w2.cell? ⟨w.heap.size, 4, none⟩ = some (.slice aa sa.length ac) := hx2.cell 4
  have y0 : w2.cell? ⟨w.heap.size + 1, 0, none⟩ = some (.bool no) := hy2.cell 0
  have y1 : w2.cell? ⟨w.heap.size + 1, 1, none⟩ = some (.int .i64 (k)) := hy2.cell 1
  have y2 : w2.cell? ⟨w.heap.size + 1, 2, none⟩ = some (.int .i64 (v)) := hy2.cell 2
  have y3 : w2.cell? ⟨w.heap.size + 1, 3, none⟩ = some (.string s) := hy2.cell 3
  have y4 : w2.cell? ⟨w.heap.size + 1, 4, none⟩ = some (.slice al l.length cl) := hy2.cell 4
  have y5 : w2.cell? ⟨w.heap.size + 1, 5, none⟩ = some (.slice af f.length cf) := hy2.cell 5
  go_wp2_with fail
  refine (right_any _ _ _ false w2 S S' _ _ E K (Nat.le_refl _) (hE.keep0 hc02) (Hra.out.chg0 hc02) (Hrd.out.chg0 hc02) Hokd.out Hsh.out).mono ?_
  rintro en w3 ⟨rfl, hc3⟩
  go_wp2_with fail
  go_ret
  exact ⟨congrArg (fun x => Ending.returned (ekVal E K x)) Hv.out.symm, hc02.tr hc3⟩
def RetCarry (E : Er → Value) (K : Value) (r : Option Ek × Dm) (w : World) (e : Ending) (w' : World) : Prop :=
 ∃ cs, e = .returned (.tuple #[.agg cs.toArray, ekVal E K r.1]) ∧ Reads w' (fun b => w.heap.size ≤ b) r.2.dt cs ∧ Chg NoB w w'
theorem zero_dm (w : World) (S : Nat → Prop) : Reads w S zeroDm.dt (dmCells false 0 0 ⟨#[]⟩ (.slice none 0 0) (.slice none 0 0)) := reads_dm.2 ⟨_, _, rfl, nil_data _ _, nil_data _ _⟩
theorem carry_any (a b : Nd) (d : Dm) (w : World) (S : Nat → Prop) (ca cb cd : List Value) (E : Er → Value) (K : Value) (hE : Eks w E K) (hoka : a.ok) (hokb : b.ok) (hokd : d.ok) (hra : Reads w S a.dt ca) (hrb : Reads w S b.dt cb) (hrd : Reads w S d.dt cd) (hSB : ∀ b, S b → b < w.heap.size) :
  Calls Tryz.prog 19 #[.agg ca.toArray, .agg cb.toArray, .agg cd.toArray] w (RetCarry E K (carryF a b d) w) := by
 have Hra := Lib.hid hra
 have Hrb := Lib.hid hrb
 have Hrd := Lib.hid hrd
 have Hoka := Lib.hid hoka
 have Hokb := Lib.hid hokb
 have Hokd := Lib.hid hokd
 clear hoka hokb hokd
 obtain ⟨i, nm, rp, kd, sa⟩ := a
 obtain ⟨i', nm', rp', kd', sb⟩ := b
 obtain ⟨no, k, v, s, l, f⟩ := d
 obtain ⟨va, rfl, hsa⟩ := reads_nd.1 hra
 obtain ⟨vb, rfl, hsb⟩ := reads_nd.1 hrb
 obtain ⟨vl, vf, rfl, hsl, hsf⟩ := reads_dm.1 hrd
 obtain ⟨aa, ac, rfl, _, _, _⟩ := reads_subs hsa
 obtain ⟨ba, bc, rfl, _, _, _⟩ := reads_subs hsb
 obtain ⟨al, cl, rfl, _, _, _⟩ := reads_data hsl
 obtain ⟨af, cf, rfl, _, _, _⟩ := reads_data hsf
 clear hsa hsb hsl hsf hra hrb hrd
 have hkl := lt_of_cell hE.kind
 go_enter Tryz.func19, Tryz.ntmps19
 go_wp2_with fail
 generalize hw1 : World.alloc _ _ = w1
 have hc1 : Chg NoB w w1 := by
  rw [← hw1]
  repeat (first | exact Chg.refl _ _ | apply Chg.alloc | apply Chg.drew)
 have hx1 : Blk w1 (w.heap.size) (ndCells i nm rp kd (.slice aa sa.length ac)) 28 := by
  rw [← hw1]
  repeat (first | exact Blk.newAt (by first | rfl | (simp; done) | (simp; omega)) | apply Blk.alloc | apply Blk.drew)
 have hy1 : Blk w1 (w.heap.size + 1) (ndCells i' nm' rp' kd' (.slice ba sb.length bc)) 28 := by
  rw [← hw1]
  repeat (first | exact Blk.newAt (by first | rfl | (simp; done) | (simp; omega)) | apply Blk.alloc | apply Blk.drew)
 have hz1 : Blk w1 (w.heap.size + 2) (dmCells no k v s (.slice al l.length cl) (.slice af f.length cf)) 43 := by
  rw [← hw1]
  repeat (first | exact Blk.newAt (by first | rfl | (simp; done) | (simp; omega)) | apply Blk.alloc | apply Blk.drew)
 have hr1 : Blk w1 (w.heap.size + 3) (dmCells false 0 0 ⟨#[]⟩ (.slice none 0 0) (.slice none 0 0)) 43 := by
  rw [← hw1]
  repeat (first | exact Blk.newAt (by first | rfl | (simp; done) | (simp; omega)) | apply Blk.alloc | apply Blk.drew)
 clear hw1
 have hs1 := hc1.size
 refine (check_any _ _ w1 S S _ _ E K (hE.keep0 hc1) Hoka.out Hokd.out (Hra.out.chg0 hc1) (Hrd.out.chg0 hc1) (fun b hb => Nat.lt_of_lt_of_le (hSB b hb) hs1)).mono ?_
 rintro en w2 ⟨rfl, hc2⟩
 cases hrec : recF (.mk i nm rp kd sa) (.mk no k v s l f) with
 | some e =>
  have Hcar := Lib.hid (carryF_rec (b := .mk i' nm' rp' kd' sb) hrec)
  clear hrec
  obtain ⟨T, u, hTu⟩ := hE.val e
  rw [hTu]
  have hck := hc2
  have hr9 := hr1.keep hck nbE
  have hc9 := hc1.tr hck
  have d0 : w2.cell? ⟨w.heap.size + 3, 0, none⟩ = some (.bool false) := hr9.cell 0
  have d1 : w2.cell? ⟨w.heap.size + 3, 1, none⟩ = some (.int .i64 (0)) := hr9.cell 1
  have d2 : w2.cell? ⟨w.heap.size + 3, 2, none⟩ = some (.int .i64 (0)) := hr9.cell 2
  have d3 : w2.cell? ⟨w.heap.size + 3, 3, none⟩ = some (.string ⟨#[]⟩) := hr9.cell 3
  have d4 : w2.cell? ⟨w.heap.size + 3, 4, none⟩ = some (.slice none 0 0) := hr9.cell 4
  have d5 : w2.cell? ⟨w.heap.size + 3, 5, none⟩ = some (.slice none 0 0) := hr9.cell 5
  have f0 : w2.frozen? ⟨w.heap.size + 3, 0, none⟩ = false := hr9.free 0
  have f1 : w2.frozen? ⟨w.heap.size + 3, 1, none⟩ = false := hr9.free 1
  have f2 : w2.frozen? ⟨w.heap.size + 3, 2, none⟩ = false := hr9.free 2
  have f3 : w2.frozen? ⟨w.heap.size + 3, 3, none⟩ = false := hr9.free 3
  have f4 : w2.frozen? ⟨w.heap.size + 3, 4, none⟩ = false := hr9.free 4
  have f5 : w2.frozen? ⟨w.heap.size + 3, 5, none⟩ = false := hr9.free 5
  have Hv9 := Lib.hid (show Value.iface T u = ekVal E K (some e) from hTu.symm)
  clear hTu
  go_wp2_with fail
  have hbE := store6 hr9 (.bool false) (.int .i64 (0)) (.int .i64 (0)) (.string ⟨#[]⟩) (.slice none 0 0) (.slice none 0 0)
  have hsE := store6_chg w2 (w.heap.size + 3) (.bool false) (.int .i64 (0)) (.int .i64 (0)) (.string ⟨#[]⟩) (.slice none 0 0) (.slice none 0 0)
  have hcE := hc9.trans hsE (fun i e => .inr (by have e : i = w.heap.size + 3 := e; omega))
  generalize World.setCell (World.setCell (World.setCell (World.setCell (World.setCell (World.setCell w2 ⟨w.heap.size + 3, 0, none⟩ (.bool false)) ⟨w.heap.size + 3, 1, none⟩ (.int .i64 (0))) ⟨w.heap.size + 3, 2, none⟩ (.int .i64 (0))) ⟨w.heap.size + 3, 3, none⟩ (.string ⟨#[]⟩)) ⟨w.heap.size + 3, 4, none⟩ (.slice none 0 0)) ⟨w.heap.size + 3, 5, none⟩ (.slice none 0 0) = wE at hbE hsE hcE ⊢
  have n0 : wE.cell? ⟨w.heap.size + 3, 0, none⟩ = some (.bool false) := hbE.cell 0
  have n1 : wE.cell? ⟨w.heap.size + 3, 1, none⟩ = some (.int .i64 (0)) := hbE.cell 1
  have n2 : wE.cell? ⟨w.heap.size + 3, 2, none⟩ = some (.int .i64 (0)) := hbE.cell 2
  have n3 : wE.cell? ⟨w.heap.size + 3, 3, none⟩ = some (.string ⟨#[]⟩) := hbE.cell 3
  have n4 : wE.cell? ⟨w.heap.size + 3, 4, none⟩ = some (.slice none 0 0) := hbE.cell 4
  have n5 : wE.cell? ⟨w.heap.size + 3, 5, none⟩ = some (.slice none 0 0) := hbE.cell 5
  refine bodyPost_ret (v := .tuple #[.agg #[.bool false, .int .i64 0, .int .i64 0, .string ⟨#[]⟩, .slice none 0 0, .slice none 0 0], .iface T u]) (by simp [results, Tryz.results19, go_sem, n0, n1, n2, n3, n4, n5]) rfl ?_
  rw [Hcar.out, Hv9.out]
  exact ⟨_, rfl, zero_dm _ _, hcE⟩
 | none =>
 rw [show ekVal E K none = .nilIface from rfl]
 have Hrec := Lib.hid hrec
 clear hrec
 have hx2 := hx1.keep hc2 nbE
 have hy2 := hy1.keep hc2 nbE
 have hz2 := hz1.keep hc2 nbE
 have y0 : w2.cell? ⟨w.heap.size + 1, 0, none⟩ = some (.int .i64 (i')) := hy2.cell 0
 have y1 : w2.cell? ⟨w.heap.size + 1, 1, none⟩ = some (.string nm') := hy2.cell 1
 have y2 : w2.cell? ⟨w.heap.size + 1, 2, none⟩ = some (.int .i64 (rp')) := hy2.cell 2
 have y3 : w2.cell? ⟨w.heap.size + 1, 3, none⟩ = some (.int .i64 (kd')) := hy2.cell 3
 have y4 : w2.cell? ⟨w.heap.size + 1, 4, none⟩ = some (.slice ba sb.length bc) := hy2.cell 4
 go_wp2_with fail
 have hc02 := hc1.tr hc2
 refine (valid_any _ w2 S _ E (hE.keep0 hc02).errs Hokb.out (Hrb.out.chg0 hc02) (fun b hb => Nat.lt_of_lt_of_le (hSB b hb) hc02.size)).mono ?_
 rintro en w3 ⟨rfl, hc3⟩
 have hc23 := hc2.tr hc3
 have hc03 := hc02.tr hc3
 cases hv : validF (.mk i' nm' rp' kd' sb) with
 | some er =>
  have Hcar := Lib.hid (carryF_to Hrec.out hv)
  clear hv
  obtain ⟨T, u, hTu⟩ := hE.errs.form er
  rw [show errVal E (some er) = .iface T u from hTu]
  have hck := hc23
  clear y0 y1 y2 y3 y4
  have hr9 := hr1.keep hck nbE
  have hc9 := hc1.tr hck
  have d0 : w3.cell? ⟨w.heap.size + 3, 0, none⟩ = some (.bool false) := hr9.cell 0
  have d1 : w3.cell? ⟨w.heap.size + 3, 1, none⟩ = some (.int .i64 (0)) := hr9.cell 1
  have d2 : w3.cell? ⟨w.heap.size + 3, 2, none⟩ = some (.int .i64 (0)) := hr9.cell 2
  have d3 : w3.cell? ⟨w.heap.size + 3, 3, none⟩ = some (.string ⟨#[]⟩) := hr9.cell 3
  have d4 : w3.cell? ⟨w.heap.size + 3, 4, none⟩ = some (.slice none 0 0) := hr9.cell 4
  have d5 : w3.cell? ⟨w.heap.size + 3, 5, none⟩ = some (.slice none 0 0) := hr9.cell 5
  have f0 : w3.frozen? ⟨w.heap.size + 3, 0, none⟩ = false := hr9.free 0
  have f1 : w3.frozen? ⟨w.heap.size + 3, 1, none⟩ = false := hr9.free 1
  have f2 : w3.frozen? ⟨w.heap.size + 3, 2, none⟩ = false := hr9.free 2
  have f3 : w3.frozen? ⟨w.heap.size + 3, 3, none⟩ = false := hr9.free 3
  have f4 : w3.frozen? ⟨w.heap.size + 3, 4, none⟩ = false := hr9.free 4
  have f5 : w3.frozen? ⟨w.heap.size + 3, 5, none⟩ = false := hr9.free 5
  have Hv9 := Lib.hid (show Value.iface T u = ekVal E K (some (.er er)) from hTu.symm)
  clear hTu
  go_wp2_with fail
  have hbE := store6 hr9 (.bool false) (.int .i64 (0)) (.int .i64 (0)) (.string ⟨#[]⟩) (.slice none 0 0) (.slice none 0 0)
  have hsE := store6_chg w3 (w.heap.size + 3) (.bool false) (.int .i64 (0)) (.int .i64 (0)) (.string ⟨#[]⟩) (.slice none 0 0) (.slice none 0 0)
  have hcE := hc9.trans hsE (fun i e => .inr (by have e : i = w.heap.size + 3 := e; omega))
  generalize World.setCell (World.setCell (World.setCell (World.setCell (World.setCell (World.setCell w3 ⟨w.heap.size + 3, 0, none⟩ (.bool false)) ⟨w.heap.size + 3, 1, none⟩ (.int .i64 (0))) ⟨w.heap.size + 3, 2, none⟩ (.int .i64 (0))) ⟨w.heap.size + 3, 3, none⟩ (.string ⟨#[]⟩)) ⟨w.heap.size + 3, 4, none⟩ (.slice none 0 0)) ⟨w.heap.size + 3, 5, none⟩ (.slice none 0 0) = wE at hbE hsE hcE ⊢
  have n0 : wE.cell? ⟨w.heap.size + 3, 0, none⟩ = some (.bool false) := hbE.cell 0
  have n1 : wE.cell? ⟨w.heap.size + 3, 1, none⟩ = some (.int .i64 (0)) := hbE.cell 1
  have n2 : wE.cell? ⟨w.heap.size + 3, 2, none⟩ = some (.int .i64 (0)) := hbE.cell 2
  have n3 : wE.cell? ⟨w.heap.size + 3, 3, none⟩ = some (.string ⟨#[]⟩) := hbE.cell 3
  have n4 : wE.cell? ⟨w.heap.size + 3, 4, none⟩ = some (.slice none 0 0) := hbE.cell 4
  have n5 : wE.cell? ⟨w.heap.size + 3, 5, none⟩ = some (.slice none 0 0) := hbE.cell 5
  refine bodyPost_ret (v := .tuple #[.agg #[.bool false, .int .i64 0, .int .i64 0, .string ⟨#[]⟩, .slice none 0 0, .slice none 0 0], .iface T u]) (by simp [results, Tryz.results19, go_sem, n0, n1, n2, n3, n4, n5]) rfl ?_
  rw [Hcar.out, Hv9.out]
  exact ⟨_, rfl, zero_dm _ _, hcE⟩
 | none =>
 rw [show errVal E none = .nilIface from rfl]
 have Hv := Lib.hid hv
 clear hv y0 y1 y2 y3 y4
 have hx3 := hx2.keep hc3 nbE
 have hy3 := hy2.keep hc3 nbE
 have hz3 := hz2.keep hc3 nbE
 have x0 : w3.cell? ⟨w.heap.size, 0, none⟩ = some (.int .i64 (i)) := hx3.cell 0
 have x1 : w3.cell? ⟨w.heap.size, 1, none⟩ = some (.string nm) := hx3.cell 1
 have x2 : w3.cell? ⟨w.heap.size, 2, none⟩ = some (.int .i64 (rp)) := hx3.cell 2
 have x3 : w3.cell? ⟨w.heap.size, 3, none⟩ = some (.int .i64 (kd)) := hx3.cell 3
 have x4 : w3.cell? ⟨w.heap.size, 4, none⟩ = some (.slice aa sa.length ac) := hx3.cell 4
 have y0 : w3.cell? ⟨w.heap.size + 1, 0, none⟩ = some (.int .i64 (i')) := hy3.cell 0
 have y1 : w3.cell? ⟨w.heap.size + 1, 1, none⟩ = some (.string nm') := hy3.cell 1
 have y2 : w3.cell? ⟨w.heap.size + 1, 2, none⟩ = some (.int .i64 (rp')) := hy3.cell 2
 have y3 : w3.cell? ⟨w.heap.size + 1, 3, none⟩ = some (.int .i64 (kd')) := hy3.cell 3
 have y4 : w3.cell? ⟨w.heap.size + 1, 4, none⟩ = some (.slice ba sb.length bc) := hy3.cell 4
 go_wp2_with fail
 obtain ⟨hva, hri⟩ := recF_valid Hrec.out
 have hfa := fitN_of hva Hoka.out
 have hfb := fitN_of Hv.out Hokb.out
 have Hfa := Lib.hid hfa
 have Hfb := Lib.hid hfb
 have Hri := Lib.hid hri
 clear hva hri
 have hsma := hfa.small
 have hsmb := hfb.small
 refine (same_any _ _ w3 S _ _ (Hra.out.chg0 hc03) (Hrb.out.chg0 hc03) Hoka.out Hokb.out (fun b hb => Nat.lt_of_lt_of_le (hSB b hb) hc03.size) hfa.ids hfb.ids (by omega) (by omega)).mono ?_
 clear hfa hfb hsma hsmb
 rintro en w4 ⟨rfl, hc4⟩
 have hc24 := hc23.tr hc4
 have hc04 := hc03.tr hc4
 clear x0 x1 x2 x3 x4 y0 y1 y2 y3 y4
 cases hsame : sameF (knOf (.mk i nm rp kd sa)) (knOf (.mk i' nm' rp' kd' sb)) with
 | false =>
  have Hcar := Lib.hid (carryF_no Hrec.out Hv.out hsame)
  clear hsame
  go_wp2_with fail
  have hr9 := hr1.keep hc24 nbE
  have gk : w4.cell? ⟨1, 0, none⟩ = some K := (hE.keep0 hc04).kind
  have d0 : w4.cell? ⟨w.heap.size + 3, 0, none⟩ = some (.bool false) := hr9.cell 0
  have d1 : w4.cell? ⟨w.heap.size + 3, 1, none⟩ = some (.int .i64 (0)) := hr9.cell 1
  have d2 : w4.cell? ⟨w.heap.size + 3, 2, none⟩ = some (.int .i64 (0)) := hr9.cell 2
  have d3 : w4.cell? ⟨w.heap.size + 3, 3, none⟩ = some (.string ⟨#[]⟩) := hr9.cell 3
  have d4 : w4.cell? ⟨w.heap.size + 3, 4, none⟩ = some (.slice none 0 0) := hr9.cell 4
  have d5 : w4.cell? ⟨w.heap.size + 3, 5, none⟩ = some (.slice none 0 0) := hr9.cell 5
  have f0 : w4.frozen? ⟨w.heap.size + 3, 0, none⟩ = false := hr9.free 0
  have f1 : w4.frozen? ⟨w.heap.size + 3, 1, none⟩ = false := hr9.free 1
  have f2 : w4.frozen? ⟨w.heap.size + 3, 2, none⟩ = false := hr9.free 2
  have f3 : w4.frozen? ⟨w.heap.size + 3, 3, none⟩ = false := hr9.free 3
  have f4 : w4.frozen? ⟨w.heap.size + 3, 4, none⟩ = false := hr9.free 4
  have f5 : w4.frozen? ⟨w.heap.size + 3, 5, none⟩ = false := hr9.free 5
  refine wp_region_n (fun w' => w'.cell? ⟨1, 0, none⟩ = some K) [] (by kernel_rfl) ?_ (fun hSh => ?_)
  ·exact gk
  refine n_tA (v := ?_) 0 rfl (Or.inl ⟨by rfl, ?_⟩) ?_
  rotate_left 1
  ·(intro w' hSw; (try dsimp only at hSw); go_simp; try with_reducible rfl)
  simp only [Act.put, qA, qB, qC, qD, qE, qF]
  refine n_tA (v := ?_) 1 rfl (Or.inl ⟨by rfl, ?_⟩) ?_
  rotate_left 1
  ·(intro w' hSw; (try dsimp only at hSw); go_simp; try with_reducible rfl)
  simp only [Act.put, qA, qB, qC, qD, qE, qF]
  refine n_step 2 rfl (by kernel_rfl) ?_
  go_wp2_with fail
  have hc9 := hc04
  have hbE := (store6 hr9 (.bool false) (.int .i64 (0)) (.int .i64 (0)) (.string ⟨#[]⟩) (.slice none 0 0) (.slice none 0 0)).drew
  have hsE := (store6_chg w4 (w.heap.size + 3) (.bool false) (.int .i64 (0)) (.int .i64 (0)) (.string ⟨#[]⟩) (.slice none 0 0) (.slice none 0 0)).drew
  have hcE := hc9.trans hsE (fun i e => .inr (by have e : i = w.heap.size + 3 := e; omega))
  generalize World.drew (World.setCell (World.setCell (World.setCell (World.setCell (World.setCell (World.setCell w4 ⟨w.heap.size + 3, 0, none⟩ (.bool false)) ⟨w.heap.size + 3, 1, none⟩ (.int .i64 (0))) ⟨w.heap.size + 3, 2, none⟩ (.int .i64 (0))) ⟨w.heap.size + 3, 3, none⟩ (.string ⟨#[]⟩)) ⟨w.heap.size + 3, 4, none⟩ (.slice none 0 0)) ⟨w.heap.size + 3, 5, none⟩ (.slice none 0 0) ) = wE at hbE hsE hcE ⊢
  have n0 : wE.cell? ⟨w.heap.size + 3, 0, none⟩ = some (.bool false) := hbE.cell 0
  have n1 : wE.cell? ⟨w.heap.size + 3, 1, none⟩ = some (.int .i64 (0)) := hbE.cell 1
  have n2 : wE.cell? ⟨w.heap.size + 3, 2, none⟩ = some (.int .i64 (0)) := hbE.cell 2
  have n3 : wE.cell? ⟨w.heap.size + 3, 3, none⟩ = some (.string ⟨#[]⟩) := hbE.cell 3
  have n4 : wE.cell? ⟨w.heap.size + 3, 4, none⟩ = some (.slice none 0 0) := hbE.cell 4
  have n5 : wE.cell? ⟨w.heap.size + 3, 5, none⟩ = some (.slice none 0 0) := hbE.cell 5
  refine ⟨fun _ => ?_, fun hSk => ?_⟩
  ·exact (hsE.cell (p := ⟨1, 0, none⟩) (lt_of_cell gk) (fun e => by have e : 1 = w.heap.size + 3 := e; have h9 : 1 < w.heap.size := hkl; omega)).trans gk
  replace hSk := hSk (by rfl)
  refine n_tA (v := ?_) 3 rfl (Or.inl ⟨by rfl, ?_⟩) ?_
  rotate_left 1
  ·(intro w' hSw; (try dsimp only at hSw); go_simp; try with_reducible rfl)
  simp only [Act.put, qA, qB, qC, qD, qE, qF]
  refine n_done (by kernel_rfl) ?_
  go_wp2_with fail
  refine bodyPost_ret (v := .tuple #[.agg #[.bool false, .int .i64 0, .int .i64 0, .string ⟨#[]⟩, .slice none 0 0, .slice none 0 0], K]) (by simp [results, Tryz.results19, go_sem, n0, n1, n2, n3, n4, n5]) rfl ?_
  rw [Hcar.out]
  exact ⟨_, rfl, zero_dm _ _, hcE⟩
 | true =>
  have Hcar := Lib.hid (carryF_yes Hrec.out Hv.out hsame)
  clear hsame
  have hx4 := hx3.keep hc4 nbE
  have hy4 := hy3.keep hc4 nbE
  have hz4 := hz3.keep hc4 nbE
  have x0 : w4.cell? ⟨w.heap.size, 0, none⟩ = some (.int .i64 (i)) := hx4.cell 0
  have x1 : w4.cell? ⟨w.heap.size, 1, none⟩ = some (.string nm) := hx4.cell 1
  have x2 : w4.cell? ⟨w.heap.size, 2, none⟩ = some (.int .i64 (rp)) := hx4.cell 2
  have x3 : w4.cell? ⟨w.heap.size, 3, none⟩ = some (.int .i64 (kd)) := hx4.cell 3
  have x4 : w4.cell? ⟨w.heap.size, 4, none⟩ = some (.slice aa sa.length ac) := hx4.cell 4
  have y0 : w4.cell? ⟨w.heap.size + 1, 0, none⟩ = some (.int .i64 (i')) := hy4.cell 0
  have y1 : w4.cell? ⟨w.heap.size + 1, 1, none⟩ = some (.string nm') := hy4.cell 1
  have y2 : w4.cell? ⟨w.heap.size + 1, 2, none⟩ = some (.int .i64 (rp')) := hy4.cell 2
  have y3 : w4.cell? ⟨w.heap.size + 1, 3, none⟩ = some (.int .i64 (kd')) := hy4.cell 3
  have y4 : w4.cell? ⟨w.heap.size + 1, 4, none⟩ = some (.slice ba sb.length bc) := hy4.cell 4
  have z0 : w4.cell? ⟨w.heap.size + 2, 0, none⟩ = some (.bool no) := hz4.cell 0
  have z1 : w4.cell? ⟨w.heap.size + 2, 1, none⟩ = some (.int .i64 (k)) := hz4.cell 1
  have z2 : w4.cell? ⟨w.heap.size + 2, 2, none⟩ = some (.int .i64 (v)) := hz4.cell 2
  have z3 : w4.cell? ⟨w.heap.size + 2, 3, none⟩ = some (.string s) := hz4.cell 3
  have z4 : w4.cell? ⟨w.heap.size + 2, 4, none⟩ = some (.slice al l.length cl) := hz4.cell 4
  have z5 : w4.cell? ⟨w.heap.size + 2, 5, none⟩ = some (.slice af f.length cf) := hz4.cell 5
  go_wp2_with fail
  refine (move_any _ _ _ _ false w4 S S S _ _ _ (Nat.le_refl _) (Hra.out.chg0 hc04) (Hrb.out.chg0 hc04) (Hrd.out.chg0 hc04) Hfa.out Hfb.out Hri.out).mono ?_
  rintro en w5 ⟨mcs, rfl, hrm, hc5⟩
  generalize hD : moveF (.mk no k v s l f) (.mk i nm rp kd sa) (.mk i' nm' rp' kd' sb) false = dy at hrm
  have HD := Lib.hid hD
  clear hD
  obtain ⟨t9, tk, tn, ts, tl, tf⟩ := dy
  obtain ⟨vl5, vf5, rfl, hs8, hs9⟩ := reads_dm.1 hrm
  obtain ⟨a5, c5, rfl, _, _, _⟩ := reads_data hs8
  obtain ⟨a6, c6, rfl, _, _, _⟩ := reads_data hs9
  clear hs8 hs9 x0 x1 x2 x3 x4 y0 y1 y2 y3 y4 z0 z1 z2 z3 z4 z5
  have hr9 := (hr1.keep hc24 nbE).keep hc5 nbE
  have hc9 := hc04.tr hc5
  have d0 : w5.cell? ⟨w.heap.size + 3, 0, none⟩ = some (.bool false) := hr9.cell 0
  have d1 : w5.cell? ⟨w.heap.size + 3, 1, none⟩ = some (.int .i64 (0)) := hr9.cell 1
  have d2 : w5.cell? ⟨w.heap.size + 3, 2, none⟩ = some (.int .i64 (0)) := hr9.cell 2
  have d3 : w5.cell? ⟨w.heap.size + 3, 3, none⟩ = some (.string ⟨#[]⟩) := hr9.cell 3
  have d4 : w5.cell? ⟨w.heap.size + 3, 4, none⟩ = some (.slice none 0 0) := hr9.cell 4
  have d5 : w5.cell? ⟨w.heap.size + 3, 5, none⟩ = some (.slice none 0 0) := hr9.cell 5
  have f0 : w5.frozen? ⟨w.heap.size + 3, 0, none⟩ = false := hr9.free 0
  have f1 : w5.frozen? ⟨w.heap.size + 3, 1, none⟩ = false := hr9.free 1
  have f2 : w5.frozen? ⟨w.heap.size + 3, 2, none⟩ = false := hr9.free 2
  have f3 : w5.frozen? ⟨w.heap.size + 3, 3, none⟩ = false := hr9.free 3
  have f4 : w5.frozen? ⟨w.heap.size + 3, 4, none⟩ = false := hr9.free 4
  have f5 : w5.frozen? ⟨w.heap.size + 3, 5, none⟩ = false := hr9.free 5
  go_wp2_with fail
  have hbE := store6 hr9 (.bool t9) (.int .i64 (tk)) (.int .i64 (tn)) (.string ts) (.slice a5 tl.length c5) (.slice a6 tf.length c6)
  have hsE := store6_chg w5 (w.heap.size + 3) (.bool t9) (.int .i64 (tk)) (.int .i64 (tn)) (.string ts) (.slice a5 tl.length c5) (.slice a6 tf.length c6)
  have hcE := hc9.trans hsE (fun i e => .inr (by have e : i = w.heap.size + 3 := e; omega))
  generalize World.setCell (World.setCell (World.setCell (World.setCell (World.setCell (World.setCell w5 ⟨w.heap.size + 3, 0, none⟩ (.bool t9)) ⟨w.heap.size + 3, 1, none⟩ (.int .i64 (tk))) ⟨w.heap.size + 3, 2, none⟩ (.int .i64 (tn))) ⟨w.heap.size + 3, 3, none⟩ (.string ts)) ⟨w.heap.size + 3, 4, none⟩ (.slice a5 tl.length c5)) ⟨w.heap.size + 3, 5, none⟩ (.slice a6 tf.length c6) = wE at hbE hsE hcE ⊢
  have n0 : wE.cell? ⟨w.heap.size + 3, 0, none⟩ = some (.bool t9) := hbE.cell 0
  have n1 : wE.cell? ⟨w.heap.size + 3, 1, none⟩ = some (.int .i64 (tk)) := hbE.cell 1
  have n2 : wE.cell? ⟨w.heap.size + 3, 2, none⟩ = some (.int .i64 (tn)) := hbE.cell 2
  have n3 : wE.cell? ⟨w.heap.size + 3, 3, none⟩ = some (.string ts) := hbE.cell 3
  have n4 : wE.cell? ⟨w.heap.size + 3, 4, none⟩ = some (.slice a5 tl.length c5) := hbE.cell 4
  have n5 : wE.cell? ⟨w.heap.size + 3, 5, none⟩ = some (.slice a6 tf.length c6) := hbE.cell 5
  refine bodyPost_ret (v := .tuple #[.agg #[.bool t9, .int .i64 tk, .int .i64 tn, .string ts, .slice a5 tl.length c5, .slice a6 tf.length c6], .nilIface]) (by simp [results, Tryz.results19, go_sem, n0, n1, n2, n3, n4, n5]) rfl ?_
  have hs4 : w.heap.size + 4 ≤ w4.heap.size := by have := hr1.lt; have := hc24.size; omega
  rw [Hcar.out, HD.out]
  exact ⟨_, rfl, (hrm.chg hsE (fun b hb e => by have hb : w4.heap.size ≤ b := hb; have e : b = w.heap.size + 3 := e; omega)).mono (fun b hb => by have hb : w4.heap.size ≤ b := hb; show w.heap.size ≤ b; omega), hcE⟩
end Go.Proofs.YtgcmfpcgmkkobaaGreatDoor
