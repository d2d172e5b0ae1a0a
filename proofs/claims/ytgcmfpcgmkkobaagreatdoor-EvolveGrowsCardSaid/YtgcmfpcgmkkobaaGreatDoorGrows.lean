/-
  EvolveGrows: the walk, by the contracts.
-/
import Derived.Test.YtgcmfpcgmkkobaaGreatDoorPastLaw
import Derived.Test.YtgcmfpcgmkkobaaGreatDoorSomeR
import Derived.Test.YtgcmfpcgmkkobaaGreatDoorFirstT
import Derived.Test.YtgcmfpcgmkkobaaGreatDoorShort
set_option linter.unusedVariables false
set_option maxHeartbeats 20000000
set_option maxRecDepth 100000
set_option linter.unusedSimpArgs false
namespace Go.Proofs.YtgcmfpcgmkkobaaGreatDoor
open Go.RowKit
theorem Own.strs {w : World} {B : Nat} {v : Value} {l : List ByteArray} (h : Own w B 9 1 (fun _ => False) v (l.map strDt)) (hl : l.length ≤ maxLen) : Reads w (fun b => b < w.heap.size) (.list 1 (l.map fun x => .lit (.string x))) [v] :=
 h.reads (fun _ e => e.elim) (fun b _ hb => hb) (by rw [List.length_map]; exact hl)
def pickN (p : Int) : Int := (if p < 0 then -(p + 1) else p).tmod 1000 + 1
theorem pick_pos (p : Int) : 1 ≤ pickN p ∧ pickN p ≤ 1000 := by
 unfold pickN
 split
 ·rw [mod_pos (by omega)]; omega
 ·rw [mod_pos (by omega)]; omega
theorem freshOfR_any (n : Nd) (p : Int) (w : World) (S : Nat → Prop) (cs : List Value) (hr : Reads w S n.dt cs) (hf : FitF n) (hp : I64 p) :
  Calls Tryz.prog 18 #[.agg cs.toArray, .int .i64 p] w (RetNew (someF n (pickN p) false).dt w) := by
 have hpp := pick_pos p
 have hcall := fun w' (h : Chg NoB w w') => someR_any _ n (pickN p) false w' S cs (Nat.le_refl _) (hr.chg0 h) hf (by omega) (.inl (by omega))
 have Hcall := Lib.hid hcall
 obtain ⟨hp1, hp2⟩ := hp
 obtain ⟨i, nm, r, k, s⟩ := n
 obtain ⟨sv, rfl, hs⟩ := reads_nd.1 hr
 obtain ⟨a, cap, rfl, _, _, _⟩ := reads_subs hs
 clear hcall hs hr hf
 by_cases hn : p < 0
 ·have hq : pickN p = -(p + 1).tmod 1000 + 1 := by unfold pickN; rw [if_pos hn, Int.neg_tmod]
  rw [hq] at Hcall hpp ⊢
  obtain ⟨hp3, hp4⟩ := hpp
  clear hq
  go_enter Tryz.func18, Tryz.ntmps18
  go_wp2_with fail
  generalize hw1 : World.alloc _ _ = w1
  have hc1 : Chg NoB w w1 := by
   rw [← hw1]
   repeat (first | exact Chg.refl _ _ | apply Chg.alloc | apply Chg.drew)
  have hb1 : Blk w1 (w.heap.size + 1) (dmCells false 0 0 ⟨#[]⟩ (.slice none 0 0) (.slice none 0 0)) 43 := by
   rw [← hw1]
   repeat (first | exact Blk.newAt (by first | rfl | (simp; done) | (simp; omega)) | apply Blk.alloc | apply Blk.drew)
  clear hw1
  have l1 := hb1.lt
  refine (Hcall.out w1 hc1).mono ?_
  rintro en w2 ⟨ecs, rfl, hr3, hc2⟩
  replace hb1 := hb1.keep hc2 nbE
  generalize hX : someF _ _ _ = dx at hr3
  have HX := Lib.hid hX
  clear hX
  obtain ⟨b9, k9, m9, s9, l9, f9⟩ := dx
  obtain ⟨vl9, vf9, rfl, hs8, hs9⟩ := reads_dm.1 hr3
  obtain ⟨a8, c8, rfl, _, _, _⟩ := reads_data hs8
  obtain ⟨a9, c9, rfl, _, _, _⟩ := reads_data hs9
  clear hs8 hs9
  have d0 : w2.cell? ⟨w.heap.size + 1, 0, none⟩ = some (.bool false) := hb1.cell 0
  have d1 : w2.cell? ⟨w.heap.size + 1, 1, none⟩ = some (.int .i64 (0)) := hb1.cell 1
  have d2 : w2.cell? ⟨w.heap.size + 1, 2, none⟩ = some (.int .i64 (0)) := hb1.cell 2
  have d3 : w2.cell? ⟨w.heap.size + 1, 3, none⟩ = some (.string ⟨#[]⟩) := hb1.cell 3
  have d4 : w2.cell? ⟨w.heap.size + 1, 4, none⟩ = some (.slice none 0 0) := hb1.cell 4
  have d5 : w2.cell? ⟨w.heap.size + 1, 5, none⟩ = some (.slice none 0 0) := hb1.cell 5
  have f0 : w2.frozen? ⟨w.heap.size + 1, 0, none⟩ = false := hb1.free 0
  have f1 : w2.frozen? ⟨w.heap.size + 1, 1, none⟩ = false := hb1.free 1
  have f2 : w2.frozen? ⟨w.heap.size + 1, 2, none⟩ = false := hb1.free 2
  have f3 : w2.frozen? ⟨w.heap.size + 1, 3, none⟩ = false := hb1.free 3
  have f4 : w2.frozen? ⟨w.heap.size + 1, 4, none⟩ = false := hb1.free 4
  have f5 : w2.frozen? ⟨w.heap.size + 1, 5, none⟩ = false := hb1.free 5
  have l2 := hb1.lt
  go_wp2_with fail
  have hbE := store6 hb1 (.bool b9) (.int .i64 (k9)) (.int .i64 (m9)) (.string s9) (.slice a8 l9.length c8) (.slice a9 f9.length c9)
  have hsE := store6_chg w2 (w.heap.size + 1) (.bool b9) (.int .i64 (k9)) (.int .i64 (m9)) (.string s9) (.slice a8 l9.length c8) (.slice a9 f9.length c9)
  have hcE := (hc1.tr hc2).trans hsE (fun i e => .inr (by have e : i = w.heap.size + 1 := e; omega))
  generalize World.setCell (World.setCell (World.setCell (World.setCell (World.setCell (World.setCell w2 ⟨w.heap.size + 1, 0, none⟩ (.bool b9)) ⟨w.heap.size + 1, 1, none⟩ (.int .i64 (k9))) ⟨w.heap.size + 1, 2, none⟩ (.int .i64 (m9))) ⟨w.heap.size + 1, 3, none⟩ (.string s9)) ⟨w.heap.size + 1, 4, none⟩ (.slice a8 l9.length c8)) ⟨w.heap.size + 1, 5, none⟩ (.slice a9 f9.length c9) = wE at hbE hsE hcE ⊢
  have n0 : wE.cell? ⟨w.heap.size + 1, 0, none⟩ = some (.bool b9) := hbE.cell 0
  have n1 : wE.cell? ⟨w.heap.size + 1, 1, none⟩ = some (.int .i64 (k9)) := hbE.cell 1
  have n2 : wE.cell? ⟨w.heap.size + 1, 2, none⟩ = some (.int .i64 (m9)) := hbE.cell 2
  have n3 : wE.cell? ⟨w.heap.size + 1, 3, none⟩ = some (.string s9) := hbE.cell 3
  have n4 : wE.cell? ⟨w.heap.size + 1, 4, none⟩ = some (.slice a8 l9.length c8) := hbE.cell 4
  have n5 : wE.cell? ⟨w.heap.size + 1, 5, none⟩ = some (.slice a9 f9.length c9) := hbE.cell 5
  refine bodyPost_ret (v := .agg #[.bool b9, .int .i64 k9, .int .i64 m9, .string s9, .slice a8 l9.length c8, .slice a9 f9.length c9]) (by simp [results, Tryz.results18, go_sem, n0, n1, n2, n3, n4, n5]) rfl ?_
  have hz := hc1.size
  exact ⟨_, rfl, by rw [HX.out]; exact (hr3.chg hsE (fun y h1 e => by have h1 : w1.heap.size ≤ y := h1; have e : y = w.heap.size + 1 := e; have := l1; omega)).mono (fun y h1 => by have h1 : w1.heap.size ≤ y := h1; show w.heap.size ≤ y; omega), hcE⟩
 ·have hq : pickN p = p % 1000 + 1 := by unfold pickN; rw [if_neg hn, mod_pos (by omega)]
  rw [hq] at Hcall hpp ⊢
  obtain ⟨hp3, hp4⟩ := hpp
  clear hq
  go_enter Tryz.func18, Tryz.ntmps18
  go_wp2_with fail
  generalize hw1 : World.alloc _ _ = w1
  have hc1 : Chg NoB w w1 := by
   rw [← hw1]
   repeat (first | exact Chg.refl _ _ | apply Chg.alloc | apply Chg.drew)
  have hb1 : Blk w1 (w.heap.size + 1) (dmCells false 0 0 ⟨#[]⟩ (.slice none 0 0) (.slice none 0 0)) 43 := by
   rw [← hw1]
   repeat (first | exact Blk.newAt (by first | rfl | (simp; done) | (simp; omega)) | apply Blk.alloc | apply Blk.drew)
  clear hw1
  have l1 := hb1.lt
  refine (Hcall.out w1 hc1).mono ?_
  rintro en w2 ⟨ecs, rfl, hr3, hc2⟩
  replace hb1 := hb1.keep hc2 nbE
  generalize hX : someF _ _ _ = dx at hr3
  have HX := Lib.hid hX
  clear hX
  obtain ⟨b9, k9, m9, s9, l9, f9⟩ := dx
  obtain ⟨vl9, vf9, rfl, hs8, hs9⟩ := reads_dm.1 hr3
  obtain ⟨a8, c8, rfl, _, _, _⟩ := reads_data hs8
  obtain ⟨a9, c9, rfl, _, _, _⟩ := reads_data hs9
  clear hs8 hs9
  have d0 : w2.cell? ⟨w.heap.size + 1, 0, none⟩ = some (.bool false) := hb1.cell 0
  have d1 : w2.cell? ⟨w.heap.size + 1, 1, none⟩ = some (.int .i64 (0)) := hb1.cell 1
  have d2 : w2.cell? ⟨w.heap.size + 1, 2, none⟩ = some (.int .i64 (0)) := hb1.cell 2
  have d3 : w2.cell? ⟨w.heap.size + 1, 3, none⟩ = some (.string ⟨#[]⟩) := hb1.cell 3
  have d4 : w2.cell? ⟨w.heap.size + 1, 4, none⟩ = some (.slice none 0 0) := hb1.cell 4
  have d5 : w2.cell? ⟨w.heap.size + 1, 5, none⟩ = some (.slice none 0 0) := hb1.cell 5
  have f0 : w2.frozen? ⟨w.heap.size + 1, 0, none⟩ = false := hb1.free 0
  have f1 : w2.frozen? ⟨w.heap.size + 1, 1, none⟩ = false := hb1.free 1
  have f2 : w2.frozen? ⟨w.heap.size + 1, 2, none⟩ = false := hb1.free 2
  have f3 : w2.frozen? ⟨w.heap.size + 1, 3, none⟩ = false := hb1.free 3
  have f4 : w2.frozen? ⟨w.heap.size + 1, 4, none⟩ = false := hb1.free 4
  have f5 : w2.frozen? ⟨w.heap.size + 1, 5, none⟩ = false := hb1.free 5
  have l2 := hb1.lt
  go_wp2_with fail
  have hbE := store6 hb1 (.bool b9) (.int .i64 (k9)) (.int .i64 (m9)) (.string s9) (.slice a8 l9.length c8) (.slice a9 f9.length c9)
  have hsE := store6_chg w2 (w.heap.size + 1) (.bool b9) (.int .i64 (k9)) (.int .i64 (m9)) (.string s9) (.slice a8 l9.length c8) (.slice a9 f9.length c9)
  have hcE := (hc1.tr hc2).trans hsE (fun i e => .inr (by have e : i = w.heap.size + 1 := e; omega))
  generalize World.setCell (World.setCell (World.setCell (World.setCell (World.setCell (World.setCell w2 ⟨w.heap.size + 1, 0, none⟩ (.bool b9)) ⟨w.heap.size + 1, 1, none⟩ (.int .i64 (k9))) ⟨w.heap.size + 1, 2, none⟩ (.int .i64 (m9))) ⟨w.heap.size + 1, 3, none⟩ (.string s9)) ⟨w.heap.size + 1, 4, none⟩ (.slice a8 l9.length c8)) ⟨w.heap.size + 1, 5, none⟩ (.slice a9 f9.length c9) = wE at hbE hsE hcE ⊢
  have n0 : wE.cell? ⟨w.heap.size + 1, 0, none⟩ = some (.bool b9) := hbE.cell 0
  have n1 : wE.cell? ⟨w.heap.size + 1, 1, none⟩ = some (.int .i64 (k9)) := hbE.cell 1
  have n2 : wE.cell? ⟨w.heap.size + 1, 2, none⟩ = some (.int .i64 (m9)) := hbE.cell 2
  have n3 : wE.cell? ⟨w.heap.size + 1, 3, none⟩ = some (.string s9) := hbE.cell 3
  have n4 : wE.cell? ⟨w.heap.size + 1, 4, none⟩ = some (.slice a8 l9.length c8) := hbE.cell 4
  have n5 : wE.cell? ⟨w.heap.size + 1, 5, none⟩ = some (.slice a9 f9.length c9) := hbE.cell 5
  refine bodyPost_ret (v := .agg #[.bool b9, .int .i64 k9, .int .i64 m9, .string s9, .slice a8 l9.length c8, .slice a9 f9.length c9]) (by simp [results, Tryz.results18, go_sem, n0, n1, n2, n3, n4, n5]) rfl ?_
  have hz := hc1.size
  exact ⟨_, rfl, by rw [HX.out]; exact (hr3.chg hsE (fun y h1 e => by have h1 : w1.heap.size ≤ y := h1; have e : y = w.heap.size + 1 := e; have := l1; omega)).mono (fun y h1 => by have h1 : w1.heap.size ≤ y := h1; show w.heap.size ≤ y; omega), hcE⟩
theorem reads_takeS {w : World} {S : Nat → Prop} {es : List ByteArray} {a : Option Addr} {n c : Nat} (h : Reads w S (.list 1 (es.map strDt)) [.slice a n c]) (k : Nat) (hk : k ≤ es.length) : Reads w S (.list 1 ((es.take k).map strDt)) [.slice a k c] := by
 obtain ⟨a', c', h1, h2, h3, h4⟩ := h
 obtain ⟨rfl, -, rfl⟩ := Value.slice.inj (List.singleton_inj.1 h1)
 rw [List.length_map] at h2
 refine ⟨a, c, by rw [List.length_map, List.length_take, Nat.min_eq_left hk], by rw [List.length_map, List.length_take]; omega, h3, ?_⟩
 rcases h4 with ⟨h4, h5⟩ | ⟨b, off, h5, h6, h7, h8⟩
 ·have : es = [] := List.map_eq_nil_iff.1 h4
  subst this
  exact .inl ⟨by simp, h5⟩
 ·refine .inr ⟨b, off, h5, h6, h7, ?_⟩
  have key : ∀ (l : List ByteArray) (k off : Nat), ReadsE w S 1 b off (l.map strDt) → ReadsE w S 1 b off ((l.take k).map strDt) := by
   intro l
   induction l with
   | nil => intro k off _; simp [ReadsE]
   | cons x l ih =>
    intro k off h
    cases k with
    | zero => simp [ReadsE]
    | succ k => exact ⟨h.1, ih k _ h.2⟩
  exact key es k off h8
def RepAny (es : List ByteArray) (w : World) (en : Ending) (w' : World) : Prop :=
 ∃ (nm : ByteArray) (rp : Int) (xa : Option Addr) (xl xc : Nat) (n : Int) (ev : Value), en = .returned (.tuple #[.agg #[.int .i64 0, .string nm, .int .i64 rp, .int .i64 0, .slice xa xl xc], .int .i64 n, ev]) ∧ Chg NoB w w' ∧
  ((∃ T u, ev = .iface T u) ∨ (ev = .nilIface ∧ ∃ X F, replayF es = .ok X n ∧ nm = rootName ∧ rp = 1 ∧ xl = X.length ∧ TrL w' w.heap.size X (.slice xa xl xc) F))
theorem replay_gen (es : List ByteArray) (v : Value) (w : World) (S : Nat → Prop) (E : Er → Value) (N K : Value) (m : Int) (hG : EvG w.heap.size E N K m w) (hr : Reads w S (.list 1 (es.map fun x => .lit (.string x))) [v]) (hsum : (es.map ByteArray.size).sum ≤ 10000) :
  Calls Tryz.prog 11 #[v] w (RepAny es w) := by
 refine (replay_any es v w S E N K m hG hr hsum).mono ?_
 rintro en w' ⟨hc, hm⟩
 obtain ⟨Tb, ub, hEb⟩ := hG.glo.errs.form .bound
 cases hrf : replayF es with
 | ok X n =>
  rw [hrf] at hm
  obtain ⟨v', F, rfl, ht, _⟩ := hm
  obtain ⟨xa, xc, rfl, _, _⟩ := ht.form
  exact ⟨rootName, 1, xa, _, xc, n, _, rfl, hc, .inr ⟨rfl, X, F, hrf, rfl, rfl, rfl, ht⟩⟩
 | bad i e =>
  rw [hrf] at hm
  obtain ⟨fv, rfl, p, rfl, _⟩ := hm
  exact ⟨⟨#[]⟩, 0, none, 0, 0, 0, _, rfl, hc, .inl ⟨_, _, rfl⟩⟩
 | many =>
  rw [hrf] at hm
  obtain rfl := hm
  exact ⟨⟨#[]⟩, 0, none, 0, 0, 0, _, rfl, hc, .inl ⟨Tb, ub, hEb⟩⟩
theorem root_small {l : List Nd} (h : Fit l) : (rootNd l).weigh ≤ 100000 := by
 have := h.small
 unfold rootNd
 simp only [Nd.weigh]
 omega
theorem same_fit {X Y : List Nd} {w : World} {ca cb : List Value} (hx : Reads w (fun b => b < w.heap.size) (rootNd X).dt ca) (hy : Reads w (fun b => b < w.heap.size) (rootNd Y).dt cb) (fx : Fit X) (fy : Fit Y) (hs : sameF (knOf (rootNd X)) (knOf (rootNd Y)) = true) :
  Calls Tryz.prog 15 #[.agg ca.toArray, .agg cb.toArray] w (RetV (.bool true) w) := by
 have h := same_any (rootNd X) (rootNd Y) w _ ca cb hx hy (root_ok fx) (root_ok fy) (fun _ h => h) fx.nodup fy.nodup (root_small fx) (root_small fy)
 rw [hs] at h
 exact h
def RetCar (y : Dm) (w : World) (en : Ending) (w' : World) : Prop := ∃ cs, en = .returned (.tuple #[.agg cs.toArray, .nilIface]) ∧ Reads w' (fun b => w.heap.size ≤ b) y.dt cs ∧ Chg NoB w w'
theorem carry_none {A B : List Nd} {x y : Dm} (fa : Fit A) (fb : Fit B) (hf : carryF (rootNd A) (rootNd B) x = (none, y)) {w : World} {ca cb cd : List Value} {E : Er → Value} {K : Value} (hE : Eks w E K) (hx : x.ok)
  (ha : Reads w (fun b => b < w.heap.size) (rootNd A).dt ca) (hb : Reads w (fun b => b < w.heap.size) (rootNd B).dt cb) (hd : Reads w (fun b => b < w.heap.size) x.dt cd) :
  Calls Tryz.prog 19 #[.agg ca.toArray, .agg cb.toArray, .agg cd.toArray] w (RetCar y w) := by
 have h := carry_any (rootNd A) (rootNd B) x w _ ca cb cd E K hE (root_ok fa) (root_ok fb) hx ha hb hd (fun _ h => h)
 rw [hf] at h
 exact h
theorem Chg.keepsN {w w' : World} (h : Chg NoB w w') : ∀ p v, w.cell? p = some v → w'.cell? p = some v := fun p v hv => (h.cell (lt_of_cell hv) nbE).trans hv
theorem Chg.keepsOn {w w' : World} {b : Nat} (h : Chg (OneB b) w w') : ∀ p v, p.block ≠ b → w.cell? p = some v → w'.cell? p = some v := fun p v hne hv => (h.cell (lt_of_cell hv) hne).trans hv
theorem extract_six (e : ByteArray) : (e.extract 0 6).toList = e.data.toList.take 6 := by
 rw [Lib.toList_data, ByteArray.data_extract]
 simp
def looseB (e : ByteArray) : Prop := 6 < e.size ∧ e.data.toList.take 6 = [108, 111, 111, 115, 101, 110]
def LoRel (es : List ByteArray) (b : Nat) (w : World) (vi : Value) (wr : World) : Prop := ∃ j : Nat, b ≤ j ∧ j ≤ es.length ∧ vi = .int .i64 (j : Nat) ∧ wr = w ∧ ∀ (i : Nat) (e : ByteArray), b ≤ i → i < j → es[i]? = some e → ¬ looseB e
theorem grows_any (es : List ByteArray) (a b p : Int) (v : Value) (w : World) (S : Nat → Prop) (E : Er → Value) (N K : Value) (m : Int) (ha : I64 a) (hb : I64 b) (hp : I64 p) (hG : EvG w.heap.size E N K m w) (hr : Reads w S (.list 1 (es.map strDt)) [v]) (hsz : ∀ s ∈ es, s.size ≤ reach) (hl : es.length * 16 ≤ reach) :
  Calls Tryz.prog 5 #[v, .int .i64 a, .int .i64 b, .int .i64 p] w (RetV (.bool true) w) := by
 obtain ⟨ad, c, rfl, hlc, hcm, hcell⟩ := list_cells (f := fun s => Value.string s) hr
 have hl2 := hl
 unfold reach at hl2
 have Hr := Lib.hid hr
 have Hcell := Lib.hid hcell
 clear hcell hr
 obtain ⟨ha1, ha2⟩ := ha
 obtain ⟨hb1, hb2⟩ := hb
 go_enter Tryz.func5, Tryz.ntmps5
 go_wp2_with fail
 refine (first_any w E N K m hG).mono ?_
 rintro en w1 ⟨rfl, hc1⟩
 go_wp2_with fail
 refine (short_any es _ w1 S (Hr.out.chg0 hc1) hsz hl).mono ?_
 rintro en w2 ⟨rfl, hc2⟩
 have hc02 := hc1.tr hc2
 cases hsb : shortB es with
 | false =>
  clear hsb
  go_wp2_with fail
  go_ret
  exact ⟨rfl, hc02⟩
 | true =>
  have hsb2 : es.length ≤ 80 ∧ lineSum es ≤ 4000 := by
   unfold shortB at hsb
   simpa using hsb
  have Hsb := Lib.hid hsb2
  have hes : (es.length : Int) ≤ 80 := by omega
  clear hsb hsb2
  by_cases h1 : a < 0
  ·go_wp2_with fail
   go_ret
   exact ⟨rfl, hc02⟩
  by_cases h2 : b < a
  ·go_wp2_with fail
   go_ret
   exact ⟨rfl, hc02⟩
  by_cases h3 : (es.length : Int) < b
  ·go_wp2_with fail
   go_ret
   exact ⟨rfl, hc02⟩
  obtain ⟨na, rfl⟩ : ∃ n : Nat, a = (n : Int) := ⟨a.toNat, by omega⟩
  obtain ⟨nb, rfl⟩ : ∃ n : Nat, b = (n : Int) := ⟨b.toNat, by omega⟩
  have hab : na ≤ nb := by omega
  have hbl : nb ≤ es.length := by omega
  go_wp2_with fail
  go_loopw [10] (fun vi wr => LoRel es nb w2 vi wr) (fun vi _ => es.length - (intOf vi).toNat)
  case atStart => exact ⟨nb, Nat.le_refl _, hbl, rfl, rfl, fun i e h1 h2 => by omega⟩
  case round =>
   obtain ⟨j, hbj, hj, rfl, hwr, hno⟩ := hrel
   rw [hwr]
   clear hwr
   have Hno := Lib.hid hno
   clear hno
   by_cases hlt : j < es.length
   ·have hltI : (j : Int) < (es.length : Int) := by omega
    obtain ⟨bb, off, rfl, hSb, hbw, hE⟩ := Hcell.out (by omega)
    have hej := hE j es[j] (List.getElem?_eq_getElem hlt)
    have e1 := (hc02.cell (p := ⟨bb, off + j, none⟩) hbw nbE).trans hej
    have hgj : es[j]? = some es[j] := List.getElem?_eq_getElem hlt
    have hszj := hsz es[j] (List.getElem_mem hlt)
    have Hgj := Lib.hid hgj
    clear hE hej hgj
    generalize es[j] = ej at e1 hszj Hgj
    unfold reach at hszj
    by_cases h6 : 6 < ej.size
    ·have h6I : (6 : Int) < (ej.size : Int) := by omega
     have hex := extract_six ej
     by_cases hlo : ej.data.toList.take 6 = [108, 111, 111, 115, 101, 110]
     ·have hb6 : ((ej.extract 0 6).toList == [108, 111, 111, 115, 101, 110]) = true := by rw [hex, beq_iff_eq]; exact hlo
      clear hex hlo
      go_wp2_with fail
      go_ret
      exact ⟨rfl, hc02⟩
     ·have hb6 : ((ej.extract 0 6).toList == [108, 111, 111, 115, 101, 110]) = false := by rw [hex, beq_eq_false_iff_ne]; exact hlo
      have Hlo := Lib.hid hlo
      clear hex hlo
      go_wp2_with fail
      go_roundw
      case rel => exact ⟨j + 1, by omega, hlt, by go_num, rfl, fun i e h1 h2 he hl => by
        by_cases hij : i = j
        ·subst hij
         obtain rfl := Option.some.inj (Hgj.out.symm.trans he)
         exact Hlo.out hl.2
        ·exact Hno.out i e h1 (by omega) he hl⟩
      case measure => simp [intOf]; omega
    ·have h6I : ¬ (6 : Int) < (ej.size : Int) := by omega
     go_wp2_with fail
     go_roundw
     case rel => exact ⟨j + 1, by omega, hlt, by go_num, rfl, fun i e h1 h2 he hl => by
       by_cases hij : i = j
       ·subst hij
        obtain rfl := Option.some.inj (Hgj.out.symm.trans he)
        exact h6 hl.1
       ·exact Hno.out i e h1 (by omega) he hl⟩
     case measure => simp [intOf]; omega
   ·have hltI : ¬ (j : Int) < (es.length : Int) := by omega
    have hlo : ∀ e ∈ es.drop nb, ¬ (6 < e.size ∧ e.data.toList.take 6 = [108, 111, 111, 115, 101, 110]) := fun e he => by
     obtain ⟨i, hi⟩ := List.getElem?_of_mem he
     rw [List.getElem?_drop] at hi
     have h1 := (List.getElem?_eq_some_iff.1 hi).1
     exact Hno.out (nb + i) e (by omega) (by omega) hi
    have Hlo := Lib.hid hlo
    have hnaI : (na : Int) ≤ (es.length : Int) := by omega
    have hnbI : (nb : Int) ≤ (es.length : Int) := by omega
    have hlcI : (es.length : Int) ≤ (c : Int) := by omega
    have hsumT : ∀ k : Nat, ((es.take k).map ByteArray.size).sum ≤ 10000 := fun k => by
     have h1 := take_sum es k
     have h2 := Hsb.out.2
     unfold lineSum at h2
     omega
    have HsumT := Lib.hid hsumT
    have htz : es.take es.length = es := List.take_length
    clear hlo Hno hj hbj hlt hsumT
    go_wp2_with fail
    refine (texts_any (es.take na) _ w2 S (reads_takeS (Hr.out.chg0 hc02) na (by omega)) (by rw [List.length_take]; omega)).mono ?_
    rintro en w3 ⟨v3, rfl, ho3, hc3⟩
    obtain ⟨a3, c3, rfl⟩ := ho3.form
    have hlm : ((es.take na).map strDt).length = na := by rw [List.length_map, List.length_take]; omega
    rw [hlm] at ho3 ⊢
    have hc03 := (hc02).tr hc3
    have hsum3 := HsumT.out na
    have h9 : (es.take na).length ≤ maxLen := by rw [List.length_take]; unfold maxLen; omega
    have hr3 := ho3.strs h9
    clear h9
    have hrep := replay_gen (es.take na) _ w3 _ E N K m ((hG.keep0 hc03).up (hc03).size) hr3 hsum3
    clear ho3 hr3 hlm hsum3
    go_wp2_with fail
    refine hrep.mono ?_
    clear hrep
    rintro en w4 ⟨xm, xr, xa, xl, xc, n, e1, rfl, hc4, hEw4⟩
    have hc04 := (hc03).tr hc4
    have hDw4 := hc3.tr hc4
    clear hc4 hc3
    go_wp2_with fail
    generalize hw5 : World.alloc w4 _ = w5
    have hc5 : Chg NoB w4 w5 := by
     rw [← hw5]
     repeat (first | exact Chg.refl _ _ | apply Chg.alloc | apply Chg.drew)
    have hbx : Blk w5 (w4.heap.size) (ndCells 0 xm xr 0 (.slice xa xl xc)) 28 := by
     rw [← hw5]
     repeat (first | exact Blk.newAt (by first | rfl | (simp; done) | (simp; omega)) | apply Blk.alloc | apply Blk.drew)
    clear hw5
    have hc05 := hc04.tr hc5
    refine (texts_any (es.take nb) _ w5 S (reads_takeS (Hr.out.chg0 hc05) nb (by omega)) (by rw [List.length_take]; omega)).mono ?_
    rintro en w6 ⟨v3, rfl, ho3, hc3⟩
    obtain ⟨a3, c3, rfl⟩ := ho3.form
    have hlm : ((es.take nb).map strDt).length = nb := by rw [List.length_map, List.length_take]; omega
    rw [hlm] at ho3 ⊢
    have hc06 := (hc05).tr hc3
    have hsum3 := HsumT.out nb
    have h9 : (es.take nb).length ≤ maxLen := by rw [List.length_take]; unfold maxLen; omega
    have hr3 := ho3.strs h9
    clear h9
    have hrep := replay_gen (es.take nb) _ w6 _ E N K m ((hG.keep0 hc06).up (hc06).size) hr3 hsum3
    clear ho3 hr3 hlm hsum3
    go_wp2_with fail
    refine hrep.mono ?_
    clear hrep
    rintro en w7 ⟨ym, yr, ya, yl, yc, m2, e2, rfl, hc4, hEw7⟩
    have hc07 := (hc06).tr hc4
    have hDw7 := hc3.tr hc4
    clear hc4 hc3
    go_wp2_with fail
    generalize hw8 : World.alloc w7 _ = w8
    have hc8 : Chg NoB w7 w8 := by
     rw [← hw8]
     repeat (first | exact Chg.refl _ _ | apply Chg.alloc | apply Chg.drew)
    have hby : Blk w8 (w7.heap.size) (ndCells 0 ym yr 0 (.slice ya yl yc)) 28 := by
     rw [← hw8]
     repeat (first | exact Blk.newAt (by first | rfl | (simp; done) | (simp; omega)) | apply Blk.alloc | apply Blk.drew)
    clear hw8
    have hc08 := hc07.tr hc8
    refine (texts_any (es.take es.length) _ w8 S (reads_takeS (Hr.out.chg0 hc08) es.length (Nat.le_refl _)) (by rw [List.length_take]; omega)).mono ?_
    rintro en w9 ⟨v3, rfl, ho3, hc3⟩
    obtain ⟨a3, c3, rfl⟩ := ho3.form
    have hlm : ((es.take es.length).map strDt).length = es.length := by rw [List.length_map, List.length_take]; omega
    rw [hlm] at ho3 ⊢
    have hc09 := (hc08).tr hc3
    have hsum3 := HsumT.out es.length
    have h9 : (es.take es.length).length ≤ maxLen := by rw [List.length_take]; unfold maxLen; omega
    have hr3 := ho3.strs h9
    clear h9
    have hrep := replay_gen (es.take es.length) _ w9 _ E N K m ((hG.keep0 hc09).up (hc09).size) hr3 hsum3
    clear ho3 hr3 hlm hsum3
    go_wp2_with fail
    refine hrep.mono ?_
    clear hrep
    rintro en w10 ⟨zm, zr, za, zl, zc, k3, e3, rfl, hc4, hEw10⟩
    have hc010 := (hc09).tr hc4
    have hDw10 := hc3.tr hc4
    clear hc4 hc3
    have hbx10 := ((hbx.keep hDw7 nbE).keep hc8 nbE).keep hDw10 nbE
    have hby10 := hby.keep hDw10 nbE
    have lx := hbx10.lt
    have ly := hby10.lt
    have x4 : w10.cell? ⟨w4.heap.size, 4, none⟩ = some (.slice xa xl xc) := hbx10.cell 4
    have y4 : w10.cell? ⟨w7.heap.size, 4, none⟩ = some (.slice ya yl yc) := hby10.cell 4
    rcases hEw4 with ⟨T1, u1, rfl⟩ | ⟨rfl, X, FX, hrx, rfl, rfl, hxl, htx⟩
    ·clear hEw7 hEw10
     go_wp2_with fail
     go_ret
     exact ⟨rfl, hc010.alloc _⟩
    rcases hEw7 with ⟨T2, u2, rfl⟩ | ⟨rfl, Y, FY, hry, rfl, rfl, hyl, hty⟩
    ·clear hEw10 htx hrx
     go_wp2_with fail
     go_ret
     exact ⟨rfl, hc010.alloc _⟩
    rcases hEw10 with ⟨T3, u3, rfl⟩ | ⟨rfl, Z, FZ, hrz, rfl, rfl, hzl, htz2⟩
    ·clear htx hrx hty hry
     go_wp2_with fail
     go_ret
     exact ⟨rfl, hc010.alloc _⟩
    have Hxl := Lib.hid hxl
    have Hyl := Lib.hid hyl
    have Hzl := Lib.hid hzl
    rw [htz] at hrz
    have Hrx := Lib.hid hrx
    have Hry := Lib.hid hry
    have Hrz := Lib.hid hrz
    have Htx := Lib.hid htx
    have Hty := Lib.hid hty
    have Htz := Lib.hid htz2
    clear hxl hyl hzl hrx hry hrz htx hty htz2
    by_cases hx0 : xl = 0
    ·go_wp2_with fail
     go_ret
     exact ⟨rfl, hc010.alloc _⟩
    by_cases hy0 : yl = 0
    ·go_wp2_with fail
     go_ret
     exact ⟨rfl, hc010.alloc _⟩
    by_cases hz0 : zl = 0
    ·go_wp2_with fail
     go_ret
     exact ⟨rfl, hc010.alloc _⟩
    have hG3 := grows_law hab Hlo.out Hrx.out Hry.out Hrz.out (fun e => hx0 (by rw [Hxl.out, e]; rfl)) (fun e => hy0 (by rw [Hyl.out, e]; rfl)) (fun e => hz0 (by rw [Hzl.out, e]; rfl))
    have bx : ((xl : Int) == 0) = false := by simpa using hx0
    have byy : ((yl : Int) == 0) = false := by simpa using hy0
    have bz : ((zl : Int) == 0) = false := by simpa using hz0
    have bx2 : (xl == 0) = false := by simpa using hx0
    have by2 : (yl == 0) = false := by simpa using hy0
    have bz2 : (zl == 0) = false := by simpa using hz0
    have hnm := hG3.nm
    have hmk := hG3.km
    have H3 := Lib.hid hG3
    have hRx : ∀ w', Chg NoB w10 w' → Reads w' (fun b => b < w'.heap.size) (rootNd X).dt [.int .i64 0, .string rootName, .int .i64 1, .int .i64 0, .slice xa xl xc] := fun w' h => by
     have h1 := ((hc5.tr hDw7).tr hc8).tr hDw10
     have h2 := (h1.tr h).size
     have h3 := Htx.out
     exact ((reads_nd.2 ⟨_, rfl, h3.reads (S := fun b => b < w4.heap.size) (fun k hk => (h3.lt k hk).2)⟩ : Reads w4 _ (rootNd X).dt _).chg0 (h1.tr h)).mono (fun b hb => Nat.lt_of_lt_of_le hb h2)
    have hRy : ∀ w', Chg NoB w10 w' → Reads w' (fun b => b < w'.heap.size) (rootNd Y).dt [.int .i64 0, .string rootName, .int .i64 1, .int .i64 0, .slice ya yl yc] := fun w' h => by
     have h1 := hc8.tr hDw10
     have h2 := (h1.tr h).size
     have h3 := Hty.out
     exact ((reads_nd.2 ⟨_, rfl, h3.reads (S := fun b => b < w7.heap.size) (fun k hk => (h3.lt k hk).2)⟩ : Reads w7 _ (rootNd Y).dt _).chg0 (h1.tr h)).mono (fun b hb => Nat.lt_of_lt_of_le hb h2)
    have hRz : ∀ w', Chg NoB w10 w' → Reads w' (fun b => b < w'.heap.size) (rootNd Z).dt [.int .i64 0, .string rootName, .int .i64 1, .int .i64 0, .slice za zl zc] := fun w' h => by
     have h2 := h.size
     have h3 := Htz.out
     exact ((reads_nd.2 ⟨_, rfl, h3.reads (S := fun b => b < w10.heap.size) (fun k hk => (h3.lt k hk).2)⟩ : Reads w10 _ (rootNd Z).dt _).chg0 h).mono (fun b hb => Nat.lt_of_lt_of_le hb h2)
    have hS1 := fun w' (h : Chg NoB w10 w') => same_fit (hRx w' h) (hRy w' h) hG3.fx hG3.fy hG3.xy
    have hS2 := fun w' (h : Chg NoB w10 w') => same_fit (hRy w' h) (hRz w' h) hG3.fy hG3.fz hG3.yz
    have hS3 := fun w' (h : Chg NoB w10 w') => same_fit (hRx w' h) (hRz w' h) hG3.fx hG3.fz hG3.xz
    have HS1 := Lib.hid hS1
    have HS2 := Lib.hid hS2
    have HS3 := Lib.hid hS3
    have HRx := Lib.hid hRx
    have HRy := Lib.hid hRy
    have HRz := Lib.hid hRz
    have hx : ∀ j v, (ndCells 0 rootName 1 0 (.slice xa xl xc))[j]? = some v → w10.cell? ⟨w4.heap.size, j, none⟩ = some v := fun j v h => (hbx10.cell j).trans h
    have hy : ∀ j v, (ndCells 0 rootName 1 0 (.slice ya yl yc))[j]? = some v → w10.cell? ⟨w7.heap.size, j, none⟩ = some v := fun j v h => (hby10.cell j).trans h
    clear hS1 hS2 hS3 hRx hRy hRz hG3 hx hy
    have p0 : w10.cell? ⟨w4.heap.size, 0, none⟩ = some (.int .i64 (0)) := hbx10.cell 0
    have p1 : w10.cell? ⟨w4.heap.size, 1, none⟩ = some (.string rootName) := hbx10.cell 1
    have p2 : w10.cell? ⟨w4.heap.size, 2, none⟩ = some (.int .i64 (1)) := hbx10.cell 2
    have p3 : w10.cell? ⟨w4.heap.size, 3, none⟩ = some (.int .i64 (0)) := hbx10.cell 3
    have p4 : w10.cell? ⟨w4.heap.size, 4, none⟩ = some (.slice xa xl xc) := hbx10.cell 4
    have q0 : w10.cell? ⟨w7.heap.size, 0, none⟩ = some (.int .i64 (0)) := hby10.cell 0
    have q1 : w10.cell? ⟨w7.heap.size, 1, none⟩ = some (.string rootName) := hby10.cell 1
    have q2 : w10.cell? ⟨w7.heap.size, 2, none⟩ = some (.int .i64 (1)) := hby10.cell 2
    have q3 : w10.cell? ⟨w7.heap.size, 3, none⟩ = some (.int .i64 (0)) := hby10.cell 3
    have q4 : w10.cell? ⟨w7.heap.size, 4, none⟩ = some (.slice ya yl yc) := hby10.cell 4
    go_wp2_with fail
    generalize hw11 : World.alloc w10 _ = w11
    have hc11 : Chg NoB w10 w11 := by
     rw [← hw11]
     repeat (first | exact Chg.refl _ _ | apply Chg.alloc | apply Chg.drew)
    have hbz : Blk w11 (w10.heap.size) (ndCells 0 rootName 1 0 (.slice za zl zc)) 28 := by
     rw [← hw11]
     repeat (first | exact Blk.newAt (by first | rfl | (simp; done) | (simp; omega)) | apply Blk.alloc | apply Blk.drew)
    clear hw11
    refine (HS1.out w11 hc11).mono ?_
    rintro en w12 ⟨rfl, hc12⟩
    have hbx12 := (hbx10.keep hc11 nbE).keep hc12 nbE
    have hby12 := (hby10.keep hc11 nbE).keep hc12 nbE
    have hbz12 := hbz.keep hc12 nbE
    have x0 : w12.cell? ⟨w4.heap.size, 0, none⟩ = some (.int .i64 (0)) := hbx12.cell 0
    have x1 : w12.cell? ⟨w4.heap.size, 1, none⟩ = some (.string rootName) := hbx12.cell 1
    have x2 : w12.cell? ⟨w4.heap.size, 2, none⟩ = some (.int .i64 (1)) := hbx12.cell 2
    have x3 : w12.cell? ⟨w4.heap.size, 3, none⟩ = some (.int .i64 (0)) := hbx12.cell 3
    have x4 : w12.cell? ⟨w4.heap.size, 4, none⟩ = some (.slice xa xl xc) := hbx12.cell 4
    have y0 : w12.cell? ⟨w7.heap.size, 0, none⟩ = some (.int .i64 (0)) := hby12.cell 0
    have y1 : w12.cell? ⟨w7.heap.size, 1, none⟩ = some (.string rootName) := hby12.cell 1
    have y2 : w12.cell? ⟨w7.heap.size, 2, none⟩ = some (.int .i64 (1)) := hby12.cell 2
    have y3 : w12.cell? ⟨w7.heap.size, 3, none⟩ = some (.int .i64 (0)) := hby12.cell 3
    have y4 : w12.cell? ⟨w7.heap.size, 4, none⟩ = some (.slice ya yl yc) := hby12.cell 4
    have z0 : w12.cell? ⟨w10.heap.size, 0, none⟩ = some (.int .i64 (0)) := hbz12.cell 0
    have z1 : w12.cell? ⟨w10.heap.size, 1, none⟩ = some (.string rootName) := hbz12.cell 1
    have z2 : w12.cell? ⟨w10.heap.size, 2, none⟩ = some (.int .i64 (1)) := hbz12.cell 2
    have z3 : w12.cell? ⟨w10.heap.size, 3, none⟩ = some (.int .i64 (0)) := hbz12.cell 3
    have z4 : w12.cell? ⟨w10.heap.size, 4, none⟩ = some (.slice za zl zc) := hbz12.cell 4
    have lx12 := hbx12.lt
    have ly12 := hby12.lt
    have lz12 := hbz12.lt
    go_wp2_with fail
    refine (HS2.out w12 (hc11.tr hc12)).mono ?_
    rintro en w13 ⟨rfl, hc13⟩
    have hbx13 := hbx12.keep hc13 nbE
    have hby13 := hby12.keep hc13 nbE
    have hbz13 := hbz12.keep hc13 nbE
    clear p0 p1 p2 p3 p4 q0 q1 q2 q3 q4 x0 x1 x2 x3 x4 y0 y1 y2 y3 y4 z0 z1 z2 z3 z4 lx12 ly12 lz12
    have x0 : w13.cell? ⟨w4.heap.size, 0, none⟩ = some (.int .i64 (0)) := hbx13.cell 0
    have x1 : w13.cell? ⟨w4.heap.size, 1, none⟩ = some (.string rootName) := hbx13.cell 1
    have x2 : w13.cell? ⟨w4.heap.size, 2, none⟩ = some (.int .i64 (1)) := hbx13.cell 2
    have x3 : w13.cell? ⟨w4.heap.size, 3, none⟩ = some (.int .i64 (0)) := hbx13.cell 3
    have x4 : w13.cell? ⟨w4.heap.size, 4, none⟩ = some (.slice xa xl xc) := hbx13.cell 4
    have y0 : w13.cell? ⟨w7.heap.size, 0, none⟩ = some (.int .i64 (0)) := hby13.cell 0
    have y1 : w13.cell? ⟨w7.heap.size, 1, none⟩ = some (.string rootName) := hby13.cell 1
    have y2 : w13.cell? ⟨w7.heap.size, 2, none⟩ = some (.int .i64 (1)) := hby13.cell 2
    have y3 : w13.cell? ⟨w7.heap.size, 3, none⟩ = some (.int .i64 (0)) := hby13.cell 3
    have y4 : w13.cell? ⟨w7.heap.size, 4, none⟩ = some (.slice ya yl yc) := hby13.cell 4
    have z0 : w13.cell? ⟨w10.heap.size, 0, none⟩ = some (.int .i64 (0)) := hbz13.cell 0
    have z1 : w13.cell? ⟨w10.heap.size, 1, none⟩ = some (.string rootName) := hbz13.cell 1
    have z2 : w13.cell? ⟨w10.heap.size, 2, none⟩ = some (.int .i64 (1)) := hbz13.cell 2
    have z3 : w13.cell? ⟨w10.heap.size, 3, none⟩ = some (.int .i64 (0)) := hbz13.cell 3
    have z4 : w13.cell? ⟨w10.heap.size, 4, none⟩ = some (.slice za zl zc) := hbz13.cell 4
    have lx13 := hbx13.lt
    have ly13 := hby13.lt
    have lz13 := hbz13.lt
    go_wp2_with fail
    refine (HS3.out w13 ((hc11.tr hc12).tr hc13)).mono ?_
    rintro en w14 ⟨rfl, hc14⟩
    have hc1014 := ((hc11.tr hc12).tr hc13).tr hc14
    have hbx14 := hbx13.keep hc14 nbE
    have hby14 := hby13.keep hc14 nbE
    have hbz14 := hbz13.keep hc14 nbE
    clear x0 x1 x2 x3 x4 y0 y1 y2 y3 y4 z0 z1 z2 z3 z4 lx13 ly13 lz13
    have x0 : w14.cell? ⟨w4.heap.size, 0, none⟩ = some (.int .i64 (0)) := hbx14.cell 0
    have x1 : w14.cell? ⟨w4.heap.size, 1, none⟩ = some (.string rootName) := hbx14.cell 1
    have x2 : w14.cell? ⟨w4.heap.size, 2, none⟩ = some (.int .i64 (1)) := hbx14.cell 2
    have x3 : w14.cell? ⟨w4.heap.size, 3, none⟩ = some (.int .i64 (0)) := hbx14.cell 3
    have x4 : w14.cell? ⟨w4.heap.size, 4, none⟩ = some (.slice xa xl xc) := hbx14.cell 4
    have y0 : w14.cell? ⟨w7.heap.size, 0, none⟩ = some (.int .i64 (0)) := hby14.cell 0
    have y1 : w14.cell? ⟨w7.heap.size, 1, none⟩ = some (.string rootName) := hby14.cell 1
    have y2 : w14.cell? ⟨w7.heap.size, 2, none⟩ = some (.int .i64 (1)) := hby14.cell 2
    have y3 : w14.cell? ⟨w7.heap.size, 3, none⟩ = some (.int .i64 (0)) := hby14.cell 3
    have y4 : w14.cell? ⟨w7.heap.size, 4, none⟩ = some (.slice ya yl yc) := hby14.cell 4
    have z0 : w14.cell? ⟨w10.heap.size, 0, none⟩ = some (.int .i64 (0)) := hbz14.cell 0
    have z1 : w14.cell? ⟨w10.heap.size, 1, none⟩ = some (.string rootName) := hbz14.cell 1
    have z2 : w14.cell? ⟨w10.heap.size, 2, none⟩ = some (.int .i64 (1)) := hbz14.cell 2
    have z3 : w14.cell? ⟨w10.heap.size, 3, none⟩ = some (.int .i64 (0)) := hbz14.cell 3
    have z4 : w14.cell? ⟨w10.heap.size, 4, none⟩ = some (.slice za zl zc) := hbz14.cell 4
    have lx14 := hbx14.lt
    have ly14 := hby14.lt
    have lz14 := hbz14.lt
    clear HS1 HS2 HS3 hbx hby hbz hbx10 hby10 hbx12 hby12 hbz12 hbx13 hby13 hbz13
    go_wp2_with fail
    have hfix := fit_root H3.out.fx
    have hfiy := fit_root H3.out.fy
    have hfiz := fit_root H3.out.fz
    have hpp := pick_pos p
    refine (freshOfR_any (rootNd X) p w14 _ _ (HRx.out w14 hc1014) hfix.fresh hp).mono ?_
    rintro en w15 ⟨dcs, rfl, hrd, hc15⟩
    have hd1 := some_right (p := pickN p) (one := false) hfix (by omega) (by omega)
    have hd2 := some_ok (p := pickN p) (one := false) hfix (by omega) (by omega)
    generalize someF (rootNd X) (pickN p) false = d at hrd hd1 hd2
    have hc1015 := hc1014.tr hc15
    have hEk : Eks w E K := ⟨hG.glo.errs, hG.kind, hG.kform⟩
    have hcw15 := hc010.tr hc1015
    have hHD : ∀ w', Chg NoB w15 w' → Calls Tryz.prog 20 #[.agg dcs.toArray] w' (RetNew d.dt w') := fun w' h => ownDatum_any _ d w' _ dcs (Nat.le_refl _) (hrd.chg0 h) hd2
    have hC1 : ∀ w' cs, Chg NoB w15 w' → Reads w' (fun b => b < w'.heap.size) d.dt cs → Calls Tryz.prog 19 #[.agg #[.int .i64 0, .string rootName, .int .i64 1, .int .i64 0, .slice xa xl xc], .agg #[.int .i64 0, .string rootName, .int .i64 1, .int .i64 0, .slice xa xl xc], .agg cs.toArray] w' (RetCar d w') := fun w' cs h hr =>
     carry_none H3.out.fx H3.out.fx ((carry_fit H3.out.fx H3.out.fx (self_fit H3.out.fx) hd1).trans (by rw [move_self _ d _ false (Nat.le_refl _) hd1 hfix])) (hEk.keep0 (hcw15.tr h)) hd2 (HRx.out w' (hc1015.tr h)) (HRx.out w' (hc1015.tr h)) hr
    have hX2 : ∃ x, x = moveF d (rootNd X) (rootNd Y) false := ⟨_, rfl⟩
    have hX3 : ∃ x, x = moveF d (rootNd X) (rootNd Z) false := ⟨_, rfl⟩
    obtain ⟨xy, hxy⟩ := hX2
    obtain ⟨xz, hxz⟩ := hX3
    have hC2 : ∀ w' cs, Chg NoB w15 w' → Reads w' (fun b => b < w'.heap.size) d.dt cs → Calls Tryz.prog 19 #[.agg #[.int .i64 0, .string rootName, .int .i64 1, .int .i64 0, .slice xa xl xc], .agg #[.int .i64 0, .string rootName, .int .i64 1, .int .i64 0, .slice ya yl yc], .agg cs.toArray] w' (RetCar xy w') := fun w' cs h hr => by
     rw [hxy]
     exact carry_none H3.out.fx H3.out.fy (carry_fit H3.out.fx H3.out.fy H3.out.xy hd1) (hEk.keep0 (hcw15.tr h)) hd2 (HRx.out w' (hc1015.tr h)) (HRy.out w' (hc1015.tr h)) hr
    have hC3 : ∀ w' cs, Chg NoB w15 w' → Reads w' (fun b => b < w'.heap.size) d.dt cs → Calls Tryz.prog 19 #[.agg #[.int .i64 0, .string rootName, .int .i64 1, .int .i64 0, .slice xa xl xc], .agg #[.int .i64 0, .string rootName, .int .i64 1, .int .i64 0, .slice za zl zc], .agg cs.toArray] w' (RetCar xz w') := fun w' cs h hr => by
     rw [hxz]
     exact carry_none H3.out.fx H3.out.fz (carry_fit H3.out.fx H3.out.fz H3.out.xz hd1) (hEk.keep0 (hcw15.tr h)) hd2 (HRx.out w' (hc1015.tr h)) (HRz.out w' (hc1015.tr h)) hr
    have hyr : rightF xy (rootNd Y) false = none := by rw [hxy]; exact H3.out.right d hd1
    have hyo : xy.ok := by rw [hxy]; exact move_ok _ d _ _ false (Nat.le_refl _) hd2 hfiy
    have hC4 : ∀ w' cs, Chg NoB w15 w' → Reads w' (fun b => b < w'.heap.size) xy.dt cs → Calls Tryz.prog 19 #[.agg #[.int .i64 0, .string rootName, .int .i64 1, .int .i64 0, .slice ya yl yc], .agg #[.int .i64 0, .string rootName, .int .i64 1, .int .i64 0, .slice za zl zc], .agg cs.toArray] w' (RetCar xz w') := fun w' cs h hr =>
     carry_none H3.out.fy H3.out.fz ((carry_fit H3.out.fy H3.out.fz H3.out.yz hyr).trans (by rw [hxy, hxz, H3.out.way d hd1])) (hEk.keep0 (hcw15.tr h)) hyo (HRy.out w' (hc1015.tr h)) (HRz.out w' (hc1015.tr h)) hr
    have hK : ∀ w' cs, Chg NoB w15 w' → Reads w' (fun b => b < w'.heap.size) xy.dt cs → Calls Tryz.prog 22 #[.agg #[.int .i64 0, .string rootName, .int .i64 1, .int .i64 0, .slice ya yl yc], .agg cs.toArray] w' (RetV .nilIface w') := fun w' cs h hr => by
     have h9 := check_any (rootNd Y) xy w' _ _ _ cs E K (hEk.keep0 (hcw15.tr h)) (root_ok H3.out.fy) hyo (HRy.out w' (hc1015.tr h)) hr (fun _ h => h)
     rw [show recF (rootNd Y) xy = none from (recF_none (valid_of H3.out.fy)).trans hyr] at h9
     exact h9
    have HD := Lib.hid hHD
    have HC1 := Lib.hid hC1
    have HC2 := Lib.hid hC2
    have HC3 := Lib.hid hC3
    have HC4 := Lib.hid hC4
    have HK := Lib.hid hK
    have Hrd := Lib.hid hrd
    have Hyo := Lib.hid hyo
    have hbx15 := hbx14.keep hc15 nbE
    have hby15 := hby14.keep hc15 nbE
    have hbz15 := hbz14.keep hc15 nbE
    clear x0 x1 x2 x3 x4 y0 y1 y2 y3 y4 z0 z1 z2 z3 z4 hHD hC1 hC2 hC3 hC4 hK hyr hyo hxy hxz hd1 hd2 hfix hfiy hfiz hbx14 hby14 hbz14
    obtain ⟨dn, dk, dv, ds, dl, df⟩ := d
    obtain ⟨vl0, vf0, rfl, hs0, hs1⟩ := reads_dm.1 hrd
    obtain ⟨pa, pc, rfl, _, _, _⟩ := reads_data hs0
    obtain ⟨qa, qc, rfl, _, _, _⟩ := reads_data hs1
    clear hs0 hs1 hrd
    go_upto_region 17 with fail
    generalize hw16 : World.alloc w15 _ = w16
    have hc16 : Chg NoB w15 w16 := by
     rw [← hw16]
     repeat (first | exact Chg.refl _ _ | apply Chg.alloc | apply Chg.drew)
    have hbd : Blk w16 (w15.heap.size) (dmCells dn dk dv ds (.slice pa dl.length pc) (.slice qa df.length qc)) 43 := by
     rw [← hw16]
     repeat (first | exact Blk.newAt (by first | rfl | (simp; done) | (simp; omega)) | apply Blk.alloc | apply Blk.drew)
    clear hw16
    have hcB := hc16
    have hbx16 := hbx15.keep hc16 nbE
    have hby16 := hby15.keep hc16 nbE
    have hbz16 := hbz15.keep hc16 nbE
    clear hbx15 hby15 hbz15
    go_upto_region 17 with fail
    go_cut [21, 22] (fun vb ve wx => ∃ (zb : Nat) (cz : List Value), vb = .pointer (some ⟨zb, 0, none⟩) ∧ ve = .nilIface ∧ Chg NoB w16 wx ∧ Blk wx zb cz 43 ∧ Reads wx (fun b => b < wx.heap.size ∧ b ≠ zb) (Dm.dt (.mk dn dk dv ds dl df)) cz ∧ (w16).heap.size ≤ zb)
    case first =>
     as_aux_lemma =>
      clear Hr Hcell Hsb hes Hlo hnaI hnbI hlcI HsumT htz hc05 hc06 hc07 hc08 hc09 hc010 hDw4 hDw7 hDw10 hc5 hc8 Hxl Hyl Hzl Hrx Hry Hrz Htx Hty Htz hx0 hy0 hz0 bx byy bz bx2 by2 bz2 hnm hmk H3 HRx HRy HRz
      clear hG hsz hl hlc hcm hl2 hc1 hc2 hc02 hab hbl h1 h2 h3 hltI hc11 hc12 hc13 hc14 hc15 hc1014 hc1015 hcw15 hEk lx ly lx14 ly14 lz14 hpp
      have lA := (hbx16).lt
      have lB := (hbx16).lt
      have lD := (hbd).lt
      have x0 : w16.cell? ⟨w4.heap.size, 0, none⟩ = some (.int .i64 (0)) := hbx16.cell 0
      have x1 : w16.cell? ⟨w4.heap.size, 1, none⟩ = some (.string rootName) := hbx16.cell 1
      have x2 : w16.cell? ⟨w4.heap.size, 2, none⟩ = some (.int .i64 (1)) := hbx16.cell 2
      have x3 : w16.cell? ⟨w4.heap.size, 3, none⟩ = some (.int .i64 (0)) := hbx16.cell 3
      have x4 : w16.cell? ⟨w4.heap.size, 4, none⟩ = some (.slice xa xl xc) := hbx16.cell 4
      have y0 : w16.cell? ⟨w4.heap.size, 0, none⟩ = some (.int .i64 (0)) := hbx16.cell 0
      have y1 : w16.cell? ⟨w4.heap.size, 1, none⟩ = some (.string rootName) := hbx16.cell 1
      have y2 : w16.cell? ⟨w4.heap.size, 2, none⟩ = some (.int .i64 (1)) := hbx16.cell 2
      have y3 : w16.cell? ⟨w4.heap.size, 3, none⟩ = some (.int .i64 (0)) := hbx16.cell 3
      have y4 : w16.cell? ⟨w4.heap.size, 4, none⟩ = some (.slice xa xl xc) := hbx16.cell 4
      have z0 : w16.cell? ⟨w15.heap.size, 0, none⟩ = some (.bool dn) := hbd.cell 0
      have z1 : w16.cell? ⟨w15.heap.size, 1, none⟩ = some (.int .i64 (dk)) := hbd.cell 1
      have z2 : w16.cell? ⟨w15.heap.size, 2, none⟩ = some (.int .i64 (dv)) := hbd.cell 2
      have z3 : w16.cell? ⟨w15.heap.size, 3, none⟩ = some (.string ds) := hbd.cell 3
      have z4 : w16.cell? ⟨w15.heap.size, 4, none⟩ = some (.slice pa dl.length pc) := hbd.cell 4
      have z5 : w16.cell? ⟨w15.heap.size, 5, none⟩ = some (.slice qa df.length qc) := hbd.cell 5
      refine wp_region_n (fun w' => w'.cell? ⟨w4.heap.size, 0, none⟩ = some (.int .i64 0) ∧ w'.cell? ⟨w4.heap.size, 1, none⟩ = some (.string rootName) ∧ w'.cell? ⟨w4.heap.size, 2, none⟩ = some (.int .i64 1) ∧ w'.cell? ⟨w4.heap.size, 3, none⟩ = some (.int .i64 0) ∧ w'.cell? ⟨w4.heap.size, 4, none⟩ = some (.slice xa xl xc) ∧ w'.cell? ⟨w4.heap.size, 0, none⟩ = some (.int .i64 0) ∧ w'.cell? ⟨w4.heap.size, 1, none⟩ = some (.string rootName) ∧ w'.cell? ⟨w4.heap.size, 2, none⟩ = some (.int .i64 1) ∧ w'.cell? ⟨w4.heap.size, 3, none⟩ = some (.int .i64 0) ∧ w'.cell? ⟨w4.heap.size, 4, none⟩ = some (.slice xa xl xc) ∧ w'.cell? ⟨w15.heap.size, 0, none⟩ = some (.bool dn) ∧ w'.cell? ⟨w15.heap.size, 1, none⟩ = some (.int .i64 dk) ∧ w'.cell? ⟨w15.heap.size, 2, none⟩ = some (.int .i64 dv) ∧ w'.cell? ⟨w15.heap.size, 3, none⟩ = some (.string ds) ∧ w'.cell? ⟨w15.heap.size, 4, none⟩ = some (.slice pa dl.length pc) ∧ w'.cell? ⟨w15.heap.size, 5, none⟩ = some (.slice qa df.length qc)) [] (by kernel_rfl) ?_ (fun hSh => ?_)
      ·exact ⟨x0, x1, x2, x3, x4, y0, y1, y2, y3, y4, z0, z1, z2, z3, z4, z5⟩
      clear x0 x1 x2 x3 x4 y0 y1 y2 y3 y4 z0 z1 z2 z3 z4 z5
      have hwk : Chg NoB w16 (w16).drew := (Chg.refl _ _).drew
      have hck := hcB.drew
      generalize World.drew w16 = wv at hSh hwk hck ⊢
      have hkk : Chg NoB wv wv := Chg.refl _ _
      obtain ⟨x0, x1, x2, x3, x4, y0, y1, y2, y3, y4, z0, z1, z2, z3, z4, z5⟩ := hSh
      have hSh := And.intro x0 (And.intro x1 (And.intro x2 (And.intro x3 (And.intro x4 (And.intro y0 (And.intro y1 (And.intro y2 (And.intro y3 (And.intro y4 (And.intro z0 (And.intro z1 (And.intro z2 (And.intro z3 (And.intro z4 z5))))))))))))))
      have hvs := hwk.size
      refine n_tA (v := ?_) 0 rfl (Or.inl ⟨by rfl, ?_⟩) ?_
      rotate_left 1
      ·(intro w' hSw; (try dsimp only at hSw); go_simp; try with_reducible rfl)
      simp only [Act.put, qA, qB, qC, qD, qE, qF]
      refine n_tA (v := ?_) 1 rfl (Or.inl ⟨by rfl, ?_⟩) ?_
      rotate_left 1
      ·(intro w' hSw; (try dsimp only at hSw); go_simp; try with_reducible rfl)
      simp only [Act.put, qA, qB, qC, qD, qE, qF]
      refine n_tA (v := ?_) 2 rfl (Or.inl ⟨by rfl, ?_⟩) ?_
      rotate_left 1
      ·(intro w' hSw; (try dsimp only at hSw); go_simp; try with_reducible rfl)
      simp only [Act.put, qA, qB, qC, qD, qE, qF]
      refine n_fork 3 8 rfl rfl (by kernel_rfl) ?_ ?_
      ·go_wp2_with fail
       refine (HD.out _ hck).mono ?_
       rintro en wn ⟨cs8, rfl, hr8, hc8⟩
       obtain ⟨vl8, vf8, rfl, hs8, hs9⟩ := reads_dm.1 hr8
       obtain ⟨a8, c8, rfl, _, _, _⟩ := reads_data hs8
       obtain ⟨a9, c9, rfl, _, _, _⟩ := reads_data hs9
       clear hs8 hs9
       go_wp2_with fail
       replace hck := hck.tr hc8
       replace hkk := hkk.tr hc8
       (try replace hzz := hzz.keep hc8 nbE)
       have hq := Chg.keepsN hkk
       have hSk := And.intro (hq _ _ x0) (And.intro (hq _ _ x1) (And.intro (hq _ _ x2) (And.intro (hq _ _ x3) (And.intro (hq _ _ x4) (And.intro (hq _ _ y0) (And.intro (hq _ _ y1) (And.intro (hq _ _ y2) (And.intro (hq _ _ y3) (And.intro (hq _ _ y4) (And.intro (hq _ _ z0) (And.intro (hq _ _ z1) (And.intro (hq _ _ z2) (And.intro (hq _ _ z3) (And.intro (hq _ _ z4) (hq _ _ z5)))))))))))))))
       clear hq
       refine ⟨fun _ => hSk, fun _ => ?_⟩
       refine n_fork 4 8 rfl rfl (by kernel_rfl) ?_ ?_
       ·go_wp2_with fail
        have hr8l := hr8.lt
        refine (HC1.out wn _ hck (hr8l.mono (fun b hb => hb.2))).mono ?_
        rintro en we ⟨ycs, rfl, hry, hce⟩
        obtain ⟨vl5, vf5, rfl, hs8, hs9⟩ := reads_dm.1 hry
        obtain ⟨a5, c5, rfl, _, _, _⟩ := reads_data hs8
        obtain ⟨a6, c6, rfl, _, _, _⟩ := reads_data hs9
        clear hs8 hs9
        go_wp2_with fail
        replace hck := hck.tr hce
        replace hkk := hkk.tr hce
        (try replace hzz := hzz.keep hce nbE)
        have hq := Chg.keepsN hkk
        have hSk := And.intro (hq _ _ x0) (And.intro (hq _ _ x1) (And.intro (hq _ _ x2) (And.intro (hq _ _ x3) (And.intro (hq _ _ x4) (And.intro (hq _ _ y0) (And.intro (hq _ _ y1) (And.intro (hq _ _ y2) (And.intro (hq _ _ y3) (And.intro (hq _ _ y4) (And.intro (hq _ _ z0) (And.intro (hq _ _ z1) (And.intro (hq _ _ z2) (And.intro (hq _ _ z3) (And.intro (hq _ _ z4) (hq _ _ z5)))))))))))))))
        clear hq
        refine ⟨fun _ => hSk, fun _ => ?_⟩
        refine n_from 5 ?_
        intro htk
        iterate 3
         refine n_tB (v := ?_) htk rfl (Or.inl ⟨by rfl, ?_⟩) ?_
         rotate_left 1
         ·(intro w' hSw; (try dsimp only at hSw); go_simp; try with_reducible rfl)
         clear htk
         intro htk
         simp only [Nat.reduceAdd] at htk
         simp only [Act.put, qA, qB, qC, qD, qE, qF]
        clear htk
        have hrl := hry.lt
        refine n_step 8 rfl (by kernel_rfl) ?_
        go_wp2_with fail
        have hzk := hkk.size
        generalize hwz : World.alloc we _ = wz
        have hcz : Chg NoB we wz := by
         rw [← hwz]
         exact (Chg.refl _ _).alloc _
        have hzz : Blk wz (we).heap.size (dmCells false 0 0 ⟨#[]⟩ (.slice none 0 0) (.slice none 0 0)) 43 := by
         rw [← hwz]
         exact Blk.newAt rfl
        have hzl := hzz.lt
        clear hwz
        replace hck := hck.tr hcz
        replace hkk := hkk.tr hcz
        (try replace hr8 := hr8.chg0 hcz)
        have hq := Chg.keepsN hkk
        have hSk := And.intro (hq _ _ x0) (And.intro (hq _ _ x1) (And.intro (hq _ _ x2) (And.intro (hq _ _ x3) (And.intro (hq _ _ x4) (And.intro (hq _ _ y0) (And.intro (hq _ _ y1) (And.intro (hq _ _ y2) (And.intro (hq _ _ y3) (And.intro (hq _ _ y4) (And.intro (hq _ _ z0) (And.intro (hq _ _ z1) (And.intro (hq _ _ z2) (And.intro (hq _ _ z3) (And.intro (hq _ _ z4) (hq _ _ z5)))))))))))))))
        clear hq
        refine ⟨fun _ => hSk, fun _ => ?_⟩
        have hryz := (hrl.chg0 hcz).mono (S' := fun b => b < wz.heap.size ∧ b ≠ we.heap.size) (fun b hb => ⟨by have := hb.2; have := hcz.size; omega, by have := hb.2; omega⟩)
        refine n_step 9 rfl (by kernel_rfl) ?_
        have o0 : wz.cell? ⟨we.heap.size, 0, none⟩ = some (.bool false) := hzz.cell 0
        have o1 : wz.cell? ⟨we.heap.size, 1, none⟩ = some (.int .i64 (0)) := hzz.cell 1
        have o2 : wz.cell? ⟨we.heap.size, 2, none⟩ = some (.int .i64 (0)) := hzz.cell 2
        have o3 : wz.cell? ⟨we.heap.size, 3, none⟩ = some (.string ⟨#[]⟩) := hzz.cell 3
        have o4 : wz.cell? ⟨we.heap.size, 4, none⟩ = some (.slice none 0 0) := hzz.cell 4
        have o5 : wz.cell? ⟨we.heap.size, 5, none⟩ = some (.slice none 0 0) := hzz.cell 5
        have ff0 : wz.frozen? ⟨we.heap.size, 0, none⟩ = false := hzz.free 0
        have ff1 : wz.frozen? ⟨we.heap.size, 1, none⟩ = false := hzz.free 1
        have ff2 : wz.frozen? ⟨we.heap.size, 2, none⟩ = false := hzz.free 2
        have ff3 : wz.frozen? ⟨we.heap.size, 3, none⟩ = false := hzz.free 3
        have ff4 : wz.frozen? ⟨we.heap.size, 4, none⟩ = false := hzz.free 4
        have ff5 : wz.frozen? ⟨we.heap.size, 5, none⟩ = false := hzz.free 5
        have hzl9 := hzz.lt
        go_wp2_with fail
        have hsE := store6_chg wz (we.heap.size) (.bool dn) (.int .i64 dk) (.int .i64 dv) (.string ds) (.slice a5 (dl).length c5) (.slice a6 (df).length c6)
        have hfi : Chg (OneB (we.heap.size)) wv wz := (Chg.refl (OneB (we.heap.size)) wv).trans hkk (fun b e => nbE e)
        have hfin := hfi.trans hsE (fun b e => .inl e)
        refine ⟨fun _ => ?_, fun hSk => ?_⟩
        ·have hq := Chg.keepsOn hfin
         have hb0 : w4.heap.size ≠ we.heap.size := by omega
         have hb1 : w4.heap.size ≠ we.heap.size := by omega
         have hb2 : w15.heap.size ≠ we.heap.size := by omega
         exact ⟨hq _ _ hb0 x0, hq _ _ hb0 x1, hq _ _ hb0 x2, hq _ _ hb0 x3, hq _ _ hb0 x4, hq _ _ hb1 y0, hq _ _ hb1 y1, hq _ _ hb1 y2, hq _ _ hb1 y3, hq _ _ hb1 y4, hq _ _ hb2 z0, hq _ _ hb2 z1, hq _ _ hb2 z2, hq _ _ hb2 z3, hq _ _ hb2 z4, hq _ _ hb2 z5⟩
        replace hSk := hSk (by rfl)
        refine n_tA (v := ?_) 10 rfl (Or.inl ⟨by rfl, ?_⟩) ?_
        rotate_left 1
        ·(intro w' hSw; (try dsimp only at hSw); go_simp; try with_reducible rfl)
        simp only [Act.put, qA, qB, qC, qD, qE, qF]
        refine n_done (by kernel_rfl) ?_
        go_wp2_with fail
        go_meet
        have hsz9 := hsE.size
        exact ⟨we.heap.size, _, rfl, rfl, (hwk.tr hkk).trans hsE (fun b e => .inr (by have e : b = we.heap.size := e; have h1 := hwk.size; omega)), store6 hzz _ _ _ _ _ _, (hryz.chg hsE (fun b hb e => hb.2 e)).mono (fun b hb => ⟨Nat.lt_of_lt_of_le hb.1 hsz9, hb.2⟩), by have h1 := hwk.size; omega⟩
       ·go_wp2_with fail
        have hzk := hkk.size
        generalize hwz : World.alloc wn _ = wz
        have hcz : Chg NoB wn wz := by
         rw [← hwz]
         exact (Chg.refl _ _).alloc _
        have hzz : Blk wz (wn).heap.size (dmCells false 0 0 ⟨#[]⟩ (.slice none 0 0) (.slice none 0 0)) 43 := by
         rw [← hwz]
         exact Blk.newAt rfl
        have hzl := hzz.lt
        clear hwz
        replace hck := hck.tr hcz
        replace hkk := hkk.tr hcz
        (try replace hr8 := hr8.chg0 hcz)
        have hq := Chg.keepsN hkk
        have hSk := And.intro (hq _ _ x0) (And.intro (hq _ _ x1) (And.intro (hq _ _ x2) (And.intro (hq _ _ x3) (And.intro (hq _ _ x4) (And.intro (hq _ _ y0) (And.intro (hq _ _ y1) (And.intro (hq _ _ y2) (And.intro (hq _ _ y3) (And.intro (hq _ _ y4) (And.intro (hq _ _ z0) (And.intro (hq _ _ z1) (And.intro (hq _ _ z2) (And.intro (hq _ _ z3) (And.intro (hq _ _ z4) (hq _ _ z5)))))))))))))))
        clear hq
        refine ⟨fun _ => hSk, fun _ => ?_⟩
        refine n_step 4 rfl (by kernel_rfl) ?_
        go_wp2_with fail
        have hr8l := hr8.lt
        refine (HC1.out wz _ hck (hr8l.mono (fun b hb => hb.2))).mono ?_
        rintro en we ⟨ycs, rfl, hry, hce⟩
        obtain ⟨vl5, vf5, rfl, hs8, hs9⟩ := reads_dm.1 hry
        obtain ⟨a5, c5, rfl, _, _, _⟩ := reads_data hs8
        obtain ⟨a6, c6, rfl, _, _, _⟩ := reads_data hs9
        clear hs8 hs9
        go_wp2_with fail
        replace hck := hck.tr hce
        replace hkk := hkk.tr hce
        (try replace hzz := hzz.keep hce nbE)
        have hq := Chg.keepsN hkk
        have hSk := And.intro (hq _ _ x0) (And.intro (hq _ _ x1) (And.intro (hq _ _ x2) (And.intro (hq _ _ x3) (And.intro (hq _ _ x4) (And.intro (hq _ _ y0) (And.intro (hq _ _ y1) (And.intro (hq _ _ y2) (And.intro (hq _ _ y3) (And.intro (hq _ _ y4) (And.intro (hq _ _ z0) (And.intro (hq _ _ z1) (And.intro (hq _ _ z2) (And.intro (hq _ _ z3) (And.intro (hq _ _ z4) (hq _ _ z5)))))))))))))))
        clear hq
        refine ⟨fun _ => hSk, fun _ => ?_⟩
        refine n_from 5 ?_
        intro htk
        iterate 3
         refine n_tB (v := ?_) htk rfl (Or.inl ⟨by rfl, ?_⟩) ?_
         rotate_left 1
         ·(intro w' hSw; (try dsimp only at hSw); go_simp; try with_reducible rfl)
         clear htk
         intro htk
         simp only [Nat.reduceAdd] at htk
         simp only [Act.put, qA, qB, qC, qD, qE, qF]
        clear htk
        have hryz := hry.lt.mono (S' := fun b => b < we.heap.size ∧ b ≠ wn.heap.size) (fun b hb => ⟨hb.2, by have h1 : wz.heap.size ≤ b := hb.1; omega⟩)
        refine n_step 9 rfl (by kernel_rfl) ?_
        have o0 : we.cell? ⟨wn.heap.size, 0, none⟩ = some (.bool false) := hzz.cell 0
        have o1 : we.cell? ⟨wn.heap.size, 1, none⟩ = some (.int .i64 (0)) := hzz.cell 1
        have o2 : we.cell? ⟨wn.heap.size, 2, none⟩ = some (.int .i64 (0)) := hzz.cell 2
        have o3 : we.cell? ⟨wn.heap.size, 3, none⟩ = some (.string ⟨#[]⟩) := hzz.cell 3
        have o4 : we.cell? ⟨wn.heap.size, 4, none⟩ = some (.slice none 0 0) := hzz.cell 4
        have o5 : we.cell? ⟨wn.heap.size, 5, none⟩ = some (.slice none 0 0) := hzz.cell 5
        have ff0 : we.frozen? ⟨wn.heap.size, 0, none⟩ = false := hzz.free 0
        have ff1 : we.frozen? ⟨wn.heap.size, 1, none⟩ = false := hzz.free 1
        have ff2 : we.frozen? ⟨wn.heap.size, 2, none⟩ = false := hzz.free 2
        have ff3 : we.frozen? ⟨wn.heap.size, 3, none⟩ = false := hzz.free 3
        have ff4 : we.frozen? ⟨wn.heap.size, 4, none⟩ = false := hzz.free 4
        have ff5 : we.frozen? ⟨wn.heap.size, 5, none⟩ = false := hzz.free 5
        have hzl9 := hzz.lt
        go_wp2_with fail
        have hsE := store6_chg we (wn.heap.size) (.bool dn) (.int .i64 dk) (.int .i64 dv) (.string ds) (.slice a5 (dl).length c5) (.slice a6 (df).length c6)
        have hfi : Chg (OneB (wn.heap.size)) wv we := (Chg.refl (OneB (wn.heap.size)) wv).trans hkk (fun b e => nbE e)
        have hfin := hfi.trans hsE (fun b e => .inl e)
        refine ⟨fun _ => ?_, fun hSk => ?_⟩
        ·have hq := Chg.keepsOn hfin
         have hb0 : w4.heap.size ≠ wn.heap.size := by omega
         have hb1 : w4.heap.size ≠ wn.heap.size := by omega
         have hb2 : w15.heap.size ≠ wn.heap.size := by omega
         exact ⟨hq _ _ hb0 x0, hq _ _ hb0 x1, hq _ _ hb0 x2, hq _ _ hb0 x3, hq _ _ hb0 x4, hq _ _ hb1 y0, hq _ _ hb1 y1, hq _ _ hb1 y2, hq _ _ hb1 y3, hq _ _ hb1 y4, hq _ _ hb2 z0, hq _ _ hb2 z1, hq _ _ hb2 z2, hq _ _ hb2 z3, hq _ _ hb2 z4, hq _ _ hb2 z5⟩
        replace hSk := hSk (by rfl)
        refine n_tA (v := ?_) 10 rfl (Or.inl ⟨by rfl, ?_⟩) ?_
        rotate_left 1
        ·(intro w' hSw; (try dsimp only at hSw); go_simp; try with_reducible rfl)
        simp only [Act.put, qA, qB, qC, qD, qE, qF]
        refine n_done (by kernel_rfl) ?_
        go_wp2_with fail
        go_meet
        have hsz9 := hsE.size
        exact ⟨wn.heap.size, _, rfl, rfl, (hwk.tr hkk).trans hsE (fun b e => .inr (by have e : b = wn.heap.size := e; have h1 := hwk.size; omega)), store6 hzz _ _ _ _ _ _, (hryz.chg hsE (fun b hb e => hb.2 e)).mono (fun b hb => ⟨Nat.lt_of_lt_of_le hb.1 hsz9, hb.2⟩), by have h1 := hwk.size; omega⟩
      ·go_wp2_with fail
       have hzk := hkk.size
       generalize hwz : World.alloc wv _ = wz
       have hcz : Chg NoB wv wz := by
        rw [← hwz]
        exact (Chg.refl _ _).alloc _
       have hzz : Blk wz (wv).heap.size (dmCells false 0 0 ⟨#[]⟩ (.slice none 0 0) (.slice none 0 0)) 43 := by
        rw [← hwz]
        exact Blk.newAt rfl
       have hzl := hzz.lt
       clear hwz
       replace hck := hck.tr hcz
       replace hkk := hkk.tr hcz
       (try replace hr8 := hr8.chg0 hcz)
       have hq := Chg.keepsN hkk
       have hSk := And.intro (hq _ _ x0) (And.intro (hq _ _ x1) (And.intro (hq _ _ x2) (And.intro (hq _ _ x3) (And.intro (hq _ _ x4) (And.intro (hq _ _ y0) (And.intro (hq _ _ y1) (And.intro (hq _ _ y2) (And.intro (hq _ _ y3) (And.intro (hq _ _ y4) (And.intro (hq _ _ z0) (And.intro (hq _ _ z1) (And.intro (hq _ _ z2) (And.intro (hq _ _ z3) (And.intro (hq _ _ z4) (hq _ _ z5)))))))))))))))
       clear hq
       refine ⟨fun _ => hSk, fun _ => ?_⟩
       refine n_step 3 rfl (by kernel_rfl) ?_
       go_wp2_with fail
       refine (HD.out _ hck).mono ?_
       rintro en wn ⟨cs8, rfl, hr8, hc8⟩
       obtain ⟨vl8, vf8, rfl, hs8, hs9⟩ := reads_dm.1 hr8
       obtain ⟨a8, c8, rfl, _, _, _⟩ := reads_data hs8
       obtain ⟨a9, c9, rfl, _, _, _⟩ := reads_data hs9
       clear hs8 hs9
       go_wp2_with fail
       replace hck := hck.tr hc8
       replace hkk := hkk.tr hc8
       (try replace hzz := hzz.keep hc8 nbE)
       have hq := Chg.keepsN hkk
       have hSk := And.intro (hq _ _ x0) (And.intro (hq _ _ x1) (And.intro (hq _ _ x2) (And.intro (hq _ _ x3) (And.intro (hq _ _ x4) (And.intro (hq _ _ y0) (And.intro (hq _ _ y1) (And.intro (hq _ _ y2) (And.intro (hq _ _ y3) (And.intro (hq _ _ y4) (And.intro (hq _ _ z0) (And.intro (hq _ _ z1) (And.intro (hq _ _ z2) (And.intro (hq _ _ z3) (And.intro (hq _ _ z4) (hq _ _ z5)))))))))))))))
       clear hq
       refine ⟨fun _ => hSk, fun _ => ?_⟩
       refine n_step 4 rfl (by kernel_rfl) ?_
       go_wp2_with fail
       have hr8l := hr8.lt
       refine (HC1.out wn _ hck (hr8l.mono (fun b hb => hb.2))).mono ?_
       rintro en we ⟨ycs, rfl, hry, hce⟩
       obtain ⟨vl5, vf5, rfl, hs8, hs9⟩ := reads_dm.1 hry
       obtain ⟨a5, c5, rfl, _, _, _⟩ := reads_data hs8
       obtain ⟨a6, c6, rfl, _, _, _⟩ := reads_data hs9
       clear hs8 hs9
       go_wp2_with fail
       replace hck := hck.tr hce
       replace hkk := hkk.tr hce
       (try replace hzz := hzz.keep hce nbE)
       have hq := Chg.keepsN hkk
       have hSk := And.intro (hq _ _ x0) (And.intro (hq _ _ x1) (And.intro (hq _ _ x2) (And.intro (hq _ _ x3) (And.intro (hq _ _ x4) (And.intro (hq _ _ y0) (And.intro (hq _ _ y1) (And.intro (hq _ _ y2) (And.intro (hq _ _ y3) (And.intro (hq _ _ y4) (And.intro (hq _ _ z0) (And.intro (hq _ _ z1) (And.intro (hq _ _ z2) (And.intro (hq _ _ z3) (And.intro (hq _ _ z4) (hq _ _ z5)))))))))))))))
       clear hq
       refine ⟨fun _ => hSk, fun _ => ?_⟩
       refine n_from 5 ?_
       intro htk
       iterate 3
        refine n_tB (v := ?_) htk rfl (Or.inl ⟨by rfl, ?_⟩) ?_
        rotate_left 1
        ·(intro w' hSw; (try dsimp only at hSw); go_simp; try with_reducible rfl)
        clear htk
        intro htk
        simp only [Nat.reduceAdd] at htk
        simp only [Act.put, qA, qB, qC, qD, qE, qF]
       clear htk
       have hryz := hry.lt.mono (S' := fun b => b < we.heap.size ∧ b ≠ wv.heap.size) (fun b hb => ⟨hb.2, by have h1 : wn.heap.size ≤ b := hb.1; have h2 := hc8.size; omega⟩)
       refine n_step 9 rfl (by kernel_rfl) ?_
       have o0 : we.cell? ⟨wv.heap.size, 0, none⟩ = some (.bool false) := hzz.cell 0
       have o1 : we.cell? ⟨wv.heap.size, 1, none⟩ = some (.int .i64 (0)) := hzz.cell 1
       have o2 : we.cell? ⟨wv.heap.size, 2, none⟩ = some (.int .i64 (0)) := hzz.cell 2
       have o3 : we.cell? ⟨wv.heap.size, 3, none⟩ = some (.string ⟨#[]⟩) := hzz.cell 3
       have o4 : we.cell? ⟨wv.heap.size, 4, none⟩ = some (.slice none 0 0) := hzz.cell 4
       have o5 : we.cell? ⟨wv.heap.size, 5, none⟩ = some (.slice none 0 0) := hzz.cell 5
       have ff0 : we.frozen? ⟨wv.heap.size, 0, none⟩ = false := hzz.free 0
       have ff1 : we.frozen? ⟨wv.heap.size, 1, none⟩ = false := hzz.free 1
       have ff2 : we.frozen? ⟨wv.heap.size, 2, none⟩ = false := hzz.free 2
       have ff3 : we.frozen? ⟨wv.heap.size, 3, none⟩ = false := hzz.free 3
       have ff4 : we.frozen? ⟨wv.heap.size, 4, none⟩ = false := hzz.free 4
       have ff5 : we.frozen? ⟨wv.heap.size, 5, none⟩ = false := hzz.free 5
       have hzl9 := hzz.lt
       go_wp2_with fail
       have hsE := store6_chg we (wv.heap.size) (.bool dn) (.int .i64 dk) (.int .i64 dv) (.string ds) (.slice a5 (dl).length c5) (.slice a6 (df).length c6)
       have hfi : Chg (OneB (wv.heap.size)) wv we := (Chg.refl (OneB (wv.heap.size)) wv).trans hkk (fun b e => nbE e)
       have hfin := hfi.trans hsE (fun b e => .inl e)
       refine ⟨fun _ => ?_, fun hSk => ?_⟩
       ·have hq := Chg.keepsOn hfin
        have hb0 : w4.heap.size ≠ wv.heap.size := by omega
        have hb1 : w4.heap.size ≠ wv.heap.size := by omega
        have hb2 : w15.heap.size ≠ wv.heap.size := by omega
        exact ⟨hq _ _ hb0 x0, hq _ _ hb0 x1, hq _ _ hb0 x2, hq _ _ hb0 x3, hq _ _ hb0 x4, hq _ _ hb1 y0, hq _ _ hb1 y1, hq _ _ hb1 y2, hq _ _ hb1 y3, hq _ _ hb1 y4, hq _ _ hb2 z0, hq _ _ hb2 z1, hq _ _ hb2 z2, hq _ _ hb2 z3, hq _ _ hb2 z4, hq _ _ hb2 z5⟩
       replace hSk := hSk (by rfl)
       refine n_tA (v := ?_) 10 rfl (Or.inl ⟨by rfl, ?_⟩) ?_
       rotate_left 1
       ·(intro w' hSw; (try dsimp only at hSw); go_simp; try with_reducible rfl)
       simp only [Act.put, qA, qB, qC, qD, qE, qF]
       refine n_done (by kernel_rfl) ?_
       go_wp2_with fail
       go_meet
       have hsz9 := hsE.size
       exact ⟨wv.heap.size, _, rfl, rfl, (hwk.tr hkk).trans hsE (fun b e => .inr (by have e : b = wv.heap.size := e; have h1 := hwk.size; omega)), store6 hzz _ _ _ _ _ _, (hryz.chg hsE (fun b hb e => hb.2 e)).mono (fun b hb => ⟨Nat.lt_of_lt_of_le hb.1 hsz9, hb.2⟩), by have h1 := hwk.size; omega⟩
    case rest =>
    obtain ⟨zb, cz, rfl, rfl, hcx, hzb, hrz, hzlo⟩ := hcut
    have hc1617 := hcx
    have hcB17 := hcB.tr hcx
    have hbx17 := hbx16.keep hcx nbE
    have hby17 := hby16.keep hcx nbE
    have hbz17 := hbz16.keep hcx nbE
    have hbd17 := hbd.keep hcx nbE
    obtain ⟨vl1, vf1, rfl, hs0, hs1⟩ := reads_dm.1 hrz
    obtain ⟨pa1, pc1, rfl, _, _, _⟩ := reads_data hs0
    obtain ⟨qa1, qc1, rfl, _, _, _⟩ := reads_data hs1
    clear hs0 hs1
    have Hr1 := Lib.hid hrz
    have lzb := hzb.lt
    have ld17 := hbd17.lt
    have o0 : wc.cell? ⟨zb, 0, none⟩ = some (.bool dn) := hzb.cell 0
    have o1 : wc.cell? ⟨zb, 1, none⟩ = some (.int .i64 (dk)) := hzb.cell 1
    have o2 : wc.cell? ⟨zb, 2, none⟩ = some (.int .i64 (dv)) := hzb.cell 2
    have o3 : wc.cell? ⟨zb, 3, none⟩ = some (.string ds) := hzb.cell 3
    have o4 : wc.cell? ⟨zb, 4, none⟩ = some (.slice pa1 dl.length pc1) := hzb.cell 4
    have o5 : wc.cell? ⟨zb, 5, none⟩ = some (.slice qa1 df.length qc1) := hzb.cell 5
    have z0 : wc.cell? ⟨w15.heap.size, 0, none⟩ = some (.bool dn) := hbd17.cell 0
    have z1 : wc.cell? ⟨w15.heap.size, 1, none⟩ = some (.int .i64 (dk)) := hbd17.cell 1
    have z2 : wc.cell? ⟨w15.heap.size, 2, none⟩ = some (.int .i64 (dv)) := hbd17.cell 2
    have z3 : wc.cell? ⟨w15.heap.size, 3, none⟩ = some (.string ds) := hbd17.cell 3
    have z4 : wc.cell? ⟨w15.heap.size, 4, none⟩ = some (.slice pa dl.length pc) := hbd17.cell 4
    have z5 : wc.cell? ⟨w15.heap.size, 5, none⟩ = some (.slice qa df.length qc) := hbd17.cell 5
    clear hrz hbx16 hby16 hbz16 hbd hcB hcx hzb hzlo
    go_wp2_with fail
    refine (sameDatum_yes _ (.mk dn dk dv ds dl df) wc _ _ _ _ (Nat.le_refl _) Hr1.out (Hrd.out.chg0 hcB17)).mono ?_
    rintro en w18 ⟨rfl, hc18⟩
    have hcB := hcB17.tr hc18
    have hbx16 := hbx17.keep hc18 nbE
    have hby16 := hby17.keep hc18 nbE
    have hbz16 := hbz17.keep hc18 nbE
    have hbd := hbd17.keep hc18 nbE
    clear o0 o1 o2 o3 o4 o5 z0 z1 z2 z3 z4 z5 Hr1 hbx17 hby17 hbz17 hbd17 lzb ld17
    obtain ⟨f1, f2, f3, f4, f5, f6⟩ := xy
    go_upto_region 20 with fail
    go_cut [23, 13] (fun vb ve wx => ∃ (zb : Nat) (cz : List Value), vb = .pointer (some ⟨zb, 0, none⟩) ∧ ve = .nilIface ∧ Chg NoB w18 wx ∧ Blk wx zb cz 43 ∧ Reads wx (fun b => b < wx.heap.size ∧ b ≠ zb) (Dm.dt (.mk f1 f2 f3 f4 f5 f6)) cz ∧ (w18).heap.size ≤ zb)
    case first =>
     as_aux_lemma =>
      clear Hr Hcell Hsb hes Hlo hnaI hnbI hlcI HsumT htz hc05 hc06 hc07 hc08 hc09 hc010 hDw4 hDw7 hDw10 hc5 hc8 Hxl Hyl Hzl Hrx Hry Hrz Htx Hty Htz hx0 hy0 hz0 bx byy bz bx2 by2 bz2 hnm hmk H3 HRx HRy HRz
      clear hG hsz hl hlc hcm hl2 hc1 hc2 hc02 hab hbl h1 h2 h3 hltI hc11 hc12 hc13 hc14 hc15 hc1014 hc1015 hcw15 hEk lx ly lx14 ly14 lz14 hpp
      have lA := (hbx16).lt
      have lB := (hby16).lt
      have lD := (hbd).lt
      have x0 : w18.cell? ⟨w4.heap.size, 0, none⟩ = some (.int .i64 (0)) := hbx16.cell 0
      have x1 : w18.cell? ⟨w4.heap.size, 1, none⟩ = some (.string rootName) := hbx16.cell 1
      have x2 : w18.cell? ⟨w4.heap.size, 2, none⟩ = some (.int .i64 (1)) := hbx16.cell 2
      have x3 : w18.cell? ⟨w4.heap.size, 3, none⟩ = some (.int .i64 (0)) := hbx16.cell 3
      have x4 : w18.cell? ⟨w4.heap.size, 4, none⟩ = some (.slice xa xl xc) := hbx16.cell 4
      have y0 : w18.cell? ⟨w7.heap.size, 0, none⟩ = some (.int .i64 (0)) := hby16.cell 0
      have y1 : w18.cell? ⟨w7.heap.size, 1, none⟩ = some (.string rootName) := hby16.cell 1
      have y2 : w18.cell? ⟨w7.heap.size, 2, none⟩ = some (.int .i64 (1)) := hby16.cell 2
      have y3 : w18.cell? ⟨w7.heap.size, 3, none⟩ = some (.int .i64 (0)) := hby16.cell 3
      have y4 : w18.cell? ⟨w7.heap.size, 4, none⟩ = some (.slice ya yl yc) := hby16.cell 4
      have z0 : w18.cell? ⟨w15.heap.size, 0, none⟩ = some (.bool dn) := hbd.cell 0
      have z1 : w18.cell? ⟨w15.heap.size, 1, none⟩ = some (.int .i64 (dk)) := hbd.cell 1
      have z2 : w18.cell? ⟨w15.heap.size, 2, none⟩ = some (.int .i64 (dv)) := hbd.cell 2
      have z3 : w18.cell? ⟨w15.heap.size, 3, none⟩ = some (.string ds) := hbd.cell 3
      have z4 : w18.cell? ⟨w15.heap.size, 4, none⟩ = some (.slice pa dl.length pc) := hbd.cell 4
      have z5 : w18.cell? ⟨w15.heap.size, 5, none⟩ = some (.slice qa df.length qc) := hbd.cell 5
      refine wp_region_n (fun w' => w'.cell? ⟨w4.heap.size, 0, none⟩ = some (.int .i64 0) ∧ w'.cell? ⟨w4.heap.size, 1, none⟩ = some (.string rootName) ∧ w'.cell? ⟨w4.heap.size, 2, none⟩ = some (.int .i64 1) ∧ w'.cell? ⟨w4.heap.size, 3, none⟩ = some (.int .i64 0) ∧ w'.cell? ⟨w4.heap.size, 4, none⟩ = some (.slice xa xl xc) ∧ w'.cell? ⟨w7.heap.size, 0, none⟩ = some (.int .i64 0) ∧ w'.cell? ⟨w7.heap.size, 1, none⟩ = some (.string rootName) ∧ w'.cell? ⟨w7.heap.size, 2, none⟩ = some (.int .i64 1) ∧ w'.cell? ⟨w7.heap.size, 3, none⟩ = some (.int .i64 0) ∧ w'.cell? ⟨w7.heap.size, 4, none⟩ = some (.slice ya yl yc) ∧ w'.cell? ⟨w15.heap.size, 0, none⟩ = some (.bool dn) ∧ w'.cell? ⟨w15.heap.size, 1, none⟩ = some (.int .i64 dk) ∧ w'.cell? ⟨w15.heap.size, 2, none⟩ = some (.int .i64 dv) ∧ w'.cell? ⟨w15.heap.size, 3, none⟩ = some (.string ds) ∧ w'.cell? ⟨w15.heap.size, 4, none⟩ = some (.slice pa dl.length pc) ∧ w'.cell? ⟨w15.heap.size, 5, none⟩ = some (.slice qa df.length qc)) [] (by kernel_rfl) ?_ (fun hSh => ?_)
      ·exact ⟨x0, x1, x2, x3, x4, y0, y1, y2, y3, y4, z0, z1, z2, z3, z4, z5⟩
      clear x0 x1 x2 x3 x4 y0 y1 y2 y3 y4 z0 z1 z2 z3 z4 z5
      have hwk : Chg NoB w18 (w18).drew := (Chg.refl _ _).drew
      have hck := hcB.drew
      generalize World.drew w18 = wv at hSh hwk hck ⊢
      have hkk : Chg NoB wv wv := Chg.refl _ _
      obtain ⟨x0, x1, x2, x3, x4, y0, y1, y2, y3, y4, z0, z1, z2, z3, z4, z5⟩ := hSh
      have hSh := And.intro x0 (And.intro x1 (And.intro x2 (And.intro x3 (And.intro x4 (And.intro y0 (And.intro y1 (And.intro y2 (And.intro y3 (And.intro y4 (And.intro z0 (And.intro z1 (And.intro z2 (And.intro z3 (And.intro z4 z5))))))))))))))
      have hvs := hwk.size
      refine n_tA (v := ?_) 0 rfl (Or.inl ⟨by rfl, ?_⟩) ?_
      rotate_left 1
      ·(intro w' hSw; (try dsimp only at hSw); go_simp; try with_reducible rfl)
      simp only [Act.put, qA, qB, qC, qD, qE, qF]
      refine n_tA (v := ?_) 1 rfl (Or.inl ⟨by rfl, ?_⟩) ?_
      rotate_left 1
      ·(intro w' hSw; (try dsimp only at hSw); go_simp; try with_reducible rfl)
      simp only [Act.put, qA, qB, qC, qD, qE, qF]
      refine n_tA (v := ?_) 2 rfl (Or.inl ⟨by rfl, ?_⟩) ?_
      rotate_left 1
      ·(intro w' hSw; (try dsimp only at hSw); go_simp; try with_reducible rfl)
      simp only [Act.put, qA, qB, qC, qD, qE, qF]
      refine n_fork 3 8 rfl rfl (by kernel_rfl) ?_ ?_
      ·go_wp2_with fail
       refine (HD.out _ hck).mono ?_
       rintro en wn ⟨cs8, rfl, hr8, hc8⟩
       obtain ⟨vl8, vf8, rfl, hs8, hs9⟩ := reads_dm.1 hr8
       obtain ⟨a8, c8, rfl, _, _, _⟩ := reads_data hs8
       obtain ⟨a9, c9, rfl, _, _, _⟩ := reads_data hs9
       clear hs8 hs9
       go_wp2_with fail
       replace hck := hck.tr hc8
       replace hkk := hkk.tr hc8
       (try replace hzz := hzz.keep hc8 nbE)
       have hq := Chg.keepsN hkk
       have hSk := And.intro (hq _ _ x0) (And.intro (hq _ _ x1) (And.intro (hq _ _ x2) (And.intro (hq _ _ x3) (And.intro (hq _ _ x4) (And.intro (hq _ _ y0) (And.intro (hq _ _ y1) (And.intro (hq _ _ y2) (And.intro (hq _ _ y3) (And.intro (hq _ _ y4) (And.intro (hq _ _ z0) (And.intro (hq _ _ z1) (And.intro (hq _ _ z2) (And.intro (hq _ _ z3) (And.intro (hq _ _ z4) (hq _ _ z5)))))))))))))))
       clear hq
       refine ⟨fun _ => hSk, fun _ => ?_⟩
       refine n_fork 4 8 rfl rfl (by kernel_rfl) ?_ ?_
       ·go_wp2_with fail
        have hr8l := hr8.lt
        refine (HC2.out wn _ hck (hr8l.mono (fun b hb => hb.2))).mono ?_
        rintro en we ⟨ycs, rfl, hry, hce⟩
        obtain ⟨vl5, vf5, rfl, hs8, hs9⟩ := reads_dm.1 hry
        obtain ⟨a5, c5, rfl, _, _, _⟩ := reads_data hs8
        obtain ⟨a6, c6, rfl, _, _, _⟩ := reads_data hs9
        clear hs8 hs9
        go_wp2_with fail
        replace hck := hck.tr hce
        replace hkk := hkk.tr hce
        (try replace hzz := hzz.keep hce nbE)
        have hq := Chg.keepsN hkk
        have hSk := And.intro (hq _ _ x0) (And.intro (hq _ _ x1) (And.intro (hq _ _ x2) (And.intro (hq _ _ x3) (And.intro (hq _ _ x4) (And.intro (hq _ _ y0) (And.intro (hq _ _ y1) (And.intro (hq _ _ y2) (And.intro (hq _ _ y3) (And.intro (hq _ _ y4) (And.intro (hq _ _ z0) (And.intro (hq _ _ z1) (And.intro (hq _ _ z2) (And.intro (hq _ _ z3) (And.intro (hq _ _ z4) (hq _ _ z5)))))))))))))))
        clear hq
        refine ⟨fun _ => hSk, fun _ => ?_⟩
        refine n_from 5 ?_
        intro htk
        iterate 3
         refine n_tB (v := ?_) htk rfl (Or.inl ⟨by rfl, ?_⟩) ?_
         rotate_left 1
         ·(intro w' hSw; (try dsimp only at hSw); go_simp; try with_reducible rfl)
         clear htk
         intro htk
         simp only [Nat.reduceAdd] at htk
         simp only [Act.put, qA, qB, qC, qD, qE, qF]
        clear htk
        have hrl := hry.lt
        refine n_step 8 rfl (by kernel_rfl) ?_
        go_wp2_with fail
        have hzk := hkk.size
        generalize hwz : World.alloc we _ = wz
        have hcz : Chg NoB we wz := by
         rw [← hwz]
         exact (Chg.refl _ _).alloc _
        have hzz : Blk wz (we).heap.size (dmCells false 0 0 ⟨#[]⟩ (.slice none 0 0) (.slice none 0 0)) 43 := by
         rw [← hwz]
         exact Blk.newAt rfl
        have hzl := hzz.lt
        clear hwz
        replace hck := hck.tr hcz
        replace hkk := hkk.tr hcz
        (try replace hr8 := hr8.chg0 hcz)
        have hq := Chg.keepsN hkk
        have hSk := And.intro (hq _ _ x0) (And.intro (hq _ _ x1) (And.intro (hq _ _ x2) (And.intro (hq _ _ x3) (And.intro (hq _ _ x4) (And.intro (hq _ _ y0) (And.intro (hq _ _ y1) (And.intro (hq _ _ y2) (And.intro (hq _ _ y3) (And.intro (hq _ _ y4) (And.intro (hq _ _ z0) (And.intro (hq _ _ z1) (And.intro (hq _ _ z2) (And.intro (hq _ _ z3) (And.intro (hq _ _ z4) (hq _ _ z5)))))))))))))))
        clear hq
        refine ⟨fun _ => hSk, fun _ => ?_⟩
        have hryz := (hrl.chg0 hcz).mono (S' := fun b => b < wz.heap.size ∧ b ≠ we.heap.size) (fun b hb => ⟨by have := hb.2; have := hcz.size; omega, by have := hb.2; omega⟩)
        refine n_step 9 rfl (by kernel_rfl) ?_
        have o0 : wz.cell? ⟨we.heap.size, 0, none⟩ = some (.bool false) := hzz.cell 0
        have o1 : wz.cell? ⟨we.heap.size, 1, none⟩ = some (.int .i64 (0)) := hzz.cell 1
        have o2 : wz.cell? ⟨we.heap.size, 2, none⟩ = some (.int .i64 (0)) := hzz.cell 2
        have o3 : wz.cell? ⟨we.heap.size, 3, none⟩ = some (.string ⟨#[]⟩) := hzz.cell 3
        have o4 : wz.cell? ⟨we.heap.size, 4, none⟩ = some (.slice none 0 0) := hzz.cell 4
        have o5 : wz.cell? ⟨we.heap.size, 5, none⟩ = some (.slice none 0 0) := hzz.cell 5
        have ff0 : wz.frozen? ⟨we.heap.size, 0, none⟩ = false := hzz.free 0
        have ff1 : wz.frozen? ⟨we.heap.size, 1, none⟩ = false := hzz.free 1
        have ff2 : wz.frozen? ⟨we.heap.size, 2, none⟩ = false := hzz.free 2
        have ff3 : wz.frozen? ⟨we.heap.size, 3, none⟩ = false := hzz.free 3
        have ff4 : wz.frozen? ⟨we.heap.size, 4, none⟩ = false := hzz.free 4
        have ff5 : wz.frozen? ⟨we.heap.size, 5, none⟩ = false := hzz.free 5
        have hzl9 := hzz.lt
        go_wp2_with fail
        have hsE := store6_chg wz (we.heap.size) (.bool f1) (.int .i64 f2) (.int .i64 f3) (.string f4) (.slice a5 (f5).length c5) (.slice a6 (f6).length c6)
        have hfi : Chg (OneB (we.heap.size)) wv wz := (Chg.refl (OneB (we.heap.size)) wv).trans hkk (fun b e => nbE e)
        have hfin := hfi.trans hsE (fun b e => .inl e)
        refine ⟨fun _ => ?_, fun hSk => ?_⟩
        ·have hq := Chg.keepsOn hfin
         have hb0 : w4.heap.size ≠ we.heap.size := by omega
         have hb1 : w7.heap.size ≠ we.heap.size := by omega
         have hb2 : w15.heap.size ≠ we.heap.size := by omega
         exact ⟨hq _ _ hb0 x0, hq _ _ hb0 x1, hq _ _ hb0 x2, hq _ _ hb0 x3, hq _ _ hb0 x4, hq _ _ hb1 y0, hq _ _ hb1 y1, hq _ _ hb1 y2, hq _ _ hb1 y3, hq _ _ hb1 y4, hq _ _ hb2 z0, hq _ _ hb2 z1, hq _ _ hb2 z2, hq _ _ hb2 z3, hq _ _ hb2 z4, hq _ _ hb2 z5⟩
        replace hSk := hSk (by rfl)
        refine n_tA (v := ?_) 10 rfl (Or.inl ⟨by rfl, ?_⟩) ?_
        rotate_left 1
        ·(intro w' hSw; (try dsimp only at hSw); go_simp; try with_reducible rfl)
        simp only [Act.put, qA, qB, qC, qD, qE, qF]
        refine n_done (by kernel_rfl) ?_
        go_wp2_with fail
        go_meet
        have hsz9 := hsE.size
        exact ⟨we.heap.size, _, rfl, rfl, (hwk.tr hkk).trans hsE (fun b e => .inr (by have e : b = we.heap.size := e; have h1 := hwk.size; omega)), store6 hzz _ _ _ _ _ _, (hryz.chg hsE (fun b hb e => hb.2 e)).mono (fun b hb => ⟨Nat.lt_of_lt_of_le hb.1 hsz9, hb.2⟩), by have h1 := hwk.size; omega⟩
       ·go_wp2_with fail
        have hzk := hkk.size
        generalize hwz : World.alloc wn _ = wz
        have hcz : Chg NoB wn wz := by
         rw [← hwz]
         exact (Chg.refl _ _).alloc _
        have hzz : Blk wz (wn).heap.size (dmCells false 0 0 ⟨#[]⟩ (.slice none 0 0) (.slice none 0 0)) 43 := by
         rw [← hwz]
         exact Blk.newAt rfl
        have hzl := hzz.lt
        clear hwz
        replace hck := hck.tr hcz
        replace hkk := hkk.tr hcz
        (try replace hr8 := hr8.chg0 hcz)
        have hq := Chg.keepsN hkk
        have hSk := And.intro (hq _ _ x0) (And.intro (hq _ _ x1) (And.intro (hq _ _ x2) (And.intro (hq _ _ x3) (And.intro (hq _ _ x4) (And.intro (hq _ _ y0) (And.intro (hq _ _ y1) (And.intro (hq _ _ y2) (And.intro (hq _ _ y3) (And.intro (hq _ _ y4) (And.intro (hq _ _ z0) (And.intro (hq _ _ z1) (And.intro (hq _ _ z2) (And.intro (hq _ _ z3) (And.intro (hq _ _ z4) (hq _ _ z5)))))))))))))))
        clear hq
        refine ⟨fun _ => hSk, fun _ => ?_⟩
        refine n_step 4 rfl (by kernel_rfl) ?_
        go_wp2_with fail
        have hr8l := hr8.lt
        refine (HC2.out wz _ hck (hr8l.mono (fun b hb => hb.2))).mono ?_
        rintro en we ⟨ycs, rfl, hry, hce⟩
        obtain ⟨vl5, vf5, rfl, hs8, hs9⟩ := reads_dm.1 hry
        obtain ⟨a5, c5, rfl, _, _, _⟩ := reads_data hs8
        obtain ⟨a6, c6, rfl, _, _, _⟩ := reads_data hs9
        clear hs8 hs9
        go_wp2_with fail
        replace hck := hck.tr hce
        replace hkk := hkk.tr hce
        (try replace hzz := hzz.keep hce nbE)
        have hq := Chg.keepsN hkk
        have hSk := And.intro (hq _ _ x0) (And.intro (hq _ _ x1) (And.intro (hq _ _ x2) (And.intro (hq _ _ x3) (And.intro (hq _ _ x4) (And.intro (hq _ _ y0) (And.intro (hq _ _ y1) (And.intro (hq _ _ y2) (And.intro (hq _ _ y3) (And.intro (hq _ _ y4) (And.intro (hq _ _ z0) (And.intro (hq _ _ z1) (And.intro (hq _ _ z2) (And.intro (hq _ _ z3) (And.intro (hq _ _ z4) (hq _ _ z5)))))))))))))))
        clear hq
        refine ⟨fun _ => hSk, fun _ => ?_⟩
        refine n_from 5 ?_
        intro htk
        iterate 3
         refine n_tB (v := ?_) htk rfl (Or.inl ⟨by rfl, ?_⟩) ?_
         rotate_left 1
         ·(intro w' hSw; (try dsimp only at hSw); go_simp; try with_reducible rfl)
         clear htk
         intro htk
         simp only [Nat.reduceAdd] at htk
         simp only [Act.put, qA, qB, qC, qD, qE, qF]
        clear htk
        have hryz := hry.lt.mono (S' := fun b => b < we.heap.size ∧ b ≠ wn.heap.size) (fun b hb => ⟨hb.2, by have h1 : wz.heap.size ≤ b := hb.1; omega⟩)
        refine n_step 9 rfl (by kernel_rfl) ?_
        have o0 : we.cell? ⟨wn.heap.size, 0, none⟩ = some (.bool false) := hzz.cell 0
        have o1 : we.cell? ⟨wn.heap.size, 1, none⟩ = some (.int .i64 (0)) := hzz.cell 1
        have o2 : we.cell? ⟨wn.heap.size, 2, none⟩ = some (.int .i64 (0)) := hzz.cell 2
        have o3 : we.cell? ⟨wn.heap.size, 3, none⟩ = some (.string ⟨#[]⟩) := hzz.cell 3
        have o4 : we.cell? ⟨wn.heap.size, 4, none⟩ = some (.slice none 0 0) := hzz.cell 4
        have o5 : we.cell? ⟨wn.heap.size, 5, none⟩ = some (.slice none 0 0) := hzz.cell 5
        have ff0 : we.frozen? ⟨wn.heap.size, 0, none⟩ = false := hzz.free 0
        have ff1 : we.frozen? ⟨wn.heap.size, 1, none⟩ = false := hzz.free 1
        have ff2 : we.frozen? ⟨wn.heap.size, 2, none⟩ = false := hzz.free 2
        have ff3 : we.frozen? ⟨wn.heap.size, 3, none⟩ = false := hzz.free 3
        have ff4 : we.frozen? ⟨wn.heap.size, 4, none⟩ = false := hzz.free 4
        have ff5 : we.frozen? ⟨wn.heap.size, 5, none⟩ = false := hzz.free 5
        have hzl9 := hzz.lt
        go_wp2_with fail
        have hsE := store6_chg we (wn.heap.size) (.bool f1) (.int .i64 f2) (.int .i64 f3) (.string f4) (.slice a5 (f5).length c5) (.slice a6 (f6).length c6)
        have hfi : Chg (OneB (wn.heap.size)) wv we := (Chg.refl (OneB (wn.heap.size)) wv).trans hkk (fun b e => nbE e)
        have hfin := hfi.trans hsE (fun b e => .inl e)
        refine ⟨fun _ => ?_, fun hSk => ?_⟩
        ·have hq := Chg.keepsOn hfin
         have hb0 : w4.heap.size ≠ wn.heap.size := by omega
         have hb1 : w7.heap.size ≠ wn.heap.size := by omega
         have hb2 : w15.heap.size ≠ wn.heap.size := by omega
         exact ⟨hq _ _ hb0 x0, hq _ _ hb0 x1, hq _ _ hb0 x2, hq _ _ hb0 x3, hq _ _ hb0 x4, hq _ _ hb1 y0, hq _ _ hb1 y1, hq _ _ hb1 y2, hq _ _ hb1 y3, hq _ _ hb1 y4, hq _ _ hb2 z0, hq _ _ hb2 z1, hq _ _ hb2 z2, hq _ _ hb2 z3, hq _ _ hb2 z4, hq _ _ hb2 z5⟩
        replace hSk := hSk (by rfl)
        refine n_tA (v := ?_) 10 rfl (Or.inl ⟨by rfl, ?_⟩) ?_
        rotate_left 1
        ·(intro w' hSw; (try dsimp only at hSw); go_simp; try with_reducible rfl)
        simp only [Act.put, qA, qB, qC, qD, qE, qF]
        refine n_done (by kernel_rfl) ?_
        go_wp2_with fail
        go_meet
        have hsz9 := hsE.size
        exact ⟨wn.heap.size, _, rfl, rfl, (hwk.tr hkk).trans hsE (fun b e => .inr (by have e : b = wn.heap.size := e; have h1 := hwk.size; omega)), store6 hzz _ _ _ _ _ _, (hryz.chg hsE (fun b hb e => hb.2 e)).mono (fun b hb => ⟨Nat.lt_of_lt_of_le hb.1 hsz9, hb.2⟩), by have h1 := hwk.size; omega⟩
      ·go_wp2_with fail
       have hzk := hkk.size
       generalize hwz : World.alloc wv _ = wz
       have hcz : Chg NoB wv wz := by
        rw [← hwz]
        exact (Chg.refl _ _).alloc _
       have hzz : Blk wz (wv).heap.size (dmCells false 0 0 ⟨#[]⟩ (.slice none 0 0) (.slice none 0 0)) 43 := by
        rw [← hwz]
        exact Blk.newAt rfl
       have hzl := hzz.lt
       clear hwz
       replace hck := hck.tr hcz
       replace hkk := hkk.tr hcz
       (try replace hr8 := hr8.chg0 hcz)
       have hq := Chg.keepsN hkk
       have hSk := And.intro (hq _ _ x0) (And.intro (hq _ _ x1) (And.intro (hq _ _ x2) (And.intro (hq _ _ x3) (And.intro (hq _ _ x4) (And.intro (hq _ _ y0) (And.intro (hq _ _ y1) (And.intro (hq _ _ y2) (And.intro (hq _ _ y3) (And.intro (hq _ _ y4) (And.intro (hq _ _ z0) (And.intro (hq _ _ z1) (And.intro (hq _ _ z2) (And.intro (hq _ _ z3) (And.intro (hq _ _ z4) (hq _ _ z5)))))))))))))))
       clear hq
       refine ⟨fun _ => hSk, fun _ => ?_⟩
       refine n_step 3 rfl (by kernel_rfl) ?_
       go_wp2_with fail
       refine (HD.out _ hck).mono ?_
       rintro en wn ⟨cs8, rfl, hr8, hc8⟩
       obtain ⟨vl8, vf8, rfl, hs8, hs9⟩ := reads_dm.1 hr8
       obtain ⟨a8, c8, rfl, _, _, _⟩ := reads_data hs8
       obtain ⟨a9, c9, rfl, _, _, _⟩ := reads_data hs9
       clear hs8 hs9
       go_wp2_with fail
       replace hck := hck.tr hc8
       replace hkk := hkk.tr hc8
       (try replace hzz := hzz.keep hc8 nbE)
       have hq := Chg.keepsN hkk
       have hSk := And.intro (hq _ _ x0) (And.intro (hq _ _ x1) (And.intro (hq _ _ x2) (And.intro (hq _ _ x3) (And.intro (hq _ _ x4) (And.intro (hq _ _ y0) (And.intro (hq _ _ y1) (And.intro (hq _ _ y2) (And.intro (hq _ _ y3) (And.intro (hq _ _ y4) (And.intro (hq _ _ z0) (And.intro (hq _ _ z1) (And.intro (hq _ _ z2) (And.intro (hq _ _ z3) (And.intro (hq _ _ z4) (hq _ _ z5)))))))))))))))
       clear hq
       refine ⟨fun _ => hSk, fun _ => ?_⟩
       refine n_step 4 rfl (by kernel_rfl) ?_
       go_wp2_with fail
       have hr8l := hr8.lt
       refine (HC2.out wn _ hck (hr8l.mono (fun b hb => hb.2))).mono ?_
       rintro en we ⟨ycs, rfl, hry, hce⟩
       obtain ⟨vl5, vf5, rfl, hs8, hs9⟩ := reads_dm.1 hry
       obtain ⟨a5, c5, rfl, _, _, _⟩ := reads_data hs8
       obtain ⟨a6, c6, rfl, _, _, _⟩ := reads_data hs9
       clear hs8 hs9
       go_wp2_with fail
       replace hck := hck.tr hce
       replace hkk := hkk.tr hce
       (try replace hzz := hzz.keep hce nbE)
       have hq := Chg.keepsN hkk
       have hSk := And.intro (hq _ _ x0) (And.intro (hq _ _ x1) (And.intro (hq _ _ x2) (And.intro (hq _ _ x3) (And.intro (hq _ _ x4) (And.intro (hq _ _ y0) (And.intro (hq _ _ y1) (And.intro (hq _ _ y2) (And.intro (hq _ _ y3) (And.intro (hq _ _ y4) (And.intro (hq _ _ z0) (And.intro (hq _ _ z1) (And.intro (hq _ _ z2) (And.intro (hq _ _ z3) (And.intro (hq _ _ z4) (hq _ _ z5)))))))))))))))
       clear hq
       refine ⟨fun _ => hSk, fun _ => ?_⟩
       refine n_from 5 ?_
       intro htk
       iterate 3
        refine n_tB (v := ?_) htk rfl (Or.inl ⟨by rfl, ?_⟩) ?_
        rotate_left 1
        ·(intro w' hSw; (try dsimp only at hSw); go_simp; try with_reducible rfl)
        clear htk
        intro htk
        simp only [Nat.reduceAdd] at htk
        simp only [Act.put, qA, qB, qC, qD, qE, qF]
       clear htk
       have hryz := hry.lt.mono (S' := fun b => b < we.heap.size ∧ b ≠ wv.heap.size) (fun b hb => ⟨hb.2, by have h1 : wn.heap.size ≤ b := hb.1; have h2 := hc8.size; omega⟩)
       refine n_step 9 rfl (by kernel_rfl) ?_
       have o0 : we.cell? ⟨wv.heap.size, 0, none⟩ = some (.bool false) := hzz.cell 0
       have o1 : we.cell? ⟨wv.heap.size, 1, none⟩ = some (.int .i64 (0)) := hzz.cell 1
       have o2 : we.cell? ⟨wv.heap.size, 2, none⟩ = some (.int .i64 (0)) := hzz.cell 2
       have o3 : we.cell? ⟨wv.heap.size, 3, none⟩ = some (.string ⟨#[]⟩) := hzz.cell 3
       have o4 : we.cell? ⟨wv.heap.size, 4, none⟩ = some (.slice none 0 0) := hzz.cell 4
       have o5 : we.cell? ⟨wv.heap.size, 5, none⟩ = some (.slice none 0 0) := hzz.cell 5
       have ff0 : we.frozen? ⟨wv.heap.size, 0, none⟩ = false := hzz.free 0
       have ff1 : we.frozen? ⟨wv.heap.size, 1, none⟩ = false := hzz.free 1
       have ff2 : we.frozen? ⟨wv.heap.size, 2, none⟩ = false := hzz.free 2
       have ff3 : we.frozen? ⟨wv.heap.size, 3, none⟩ = false := hzz.free 3
       have ff4 : we.frozen? ⟨wv.heap.size, 4, none⟩ = false := hzz.free 4
       have ff5 : we.frozen? ⟨wv.heap.size, 5, none⟩ = false := hzz.free 5
       have hzl9 := hzz.lt
       go_wp2_with fail
       have hsE := store6_chg we (wv.heap.size) (.bool f1) (.int .i64 f2) (.int .i64 f3) (.string f4) (.slice a5 (f5).length c5) (.slice a6 (f6).length c6)
       have hfi : Chg (OneB (wv.heap.size)) wv we := (Chg.refl (OneB (wv.heap.size)) wv).trans hkk (fun b e => nbE e)
       have hfin := hfi.trans hsE (fun b e => .inl e)
       refine ⟨fun _ => ?_, fun hSk => ?_⟩
       ·have hq := Chg.keepsOn hfin
        have hb0 : w4.heap.size ≠ wv.heap.size := by omega
        have hb1 : w7.heap.size ≠ wv.heap.size := by omega
        have hb2 : w15.heap.size ≠ wv.heap.size := by omega
        exact ⟨hq _ _ hb0 x0, hq _ _ hb0 x1, hq _ _ hb0 x2, hq _ _ hb0 x3, hq _ _ hb0 x4, hq _ _ hb1 y0, hq _ _ hb1 y1, hq _ _ hb1 y2, hq _ _ hb1 y3, hq _ _ hb1 y4, hq _ _ hb2 z0, hq _ _ hb2 z1, hq _ _ hb2 z2, hq _ _ hb2 z3, hq _ _ hb2 z4, hq _ _ hb2 z5⟩
       replace hSk := hSk (by rfl)
       refine n_tA (v := ?_) 10 rfl (Or.inl ⟨by rfl, ?_⟩) ?_
       rotate_left 1
       ·(intro w' hSw; (try dsimp only at hSw); go_simp; try with_reducible rfl)
       simp only [Act.put, qA, qB, qC, qD, qE, qF]
       refine n_done (by kernel_rfl) ?_
       go_wp2_with fail
       go_meet
       have hsz9 := hsE.size
       exact ⟨wv.heap.size, _, rfl, rfl, (hwk.tr hkk).trans hsE (fun b e => .inr (by have e : b = wv.heap.size := e; have h1 := hwk.size; omega)), store6 hzz _ _ _ _ _ _, (hryz.chg hsE (fun b hb e => hb.2 e)).mono (fun b hb => ⟨Nat.lt_of_lt_of_le hb.1 hsz9, hb.2⟩), by have h1 := hwk.size; omega⟩
    case rest =>
    obtain ⟨zb, cz, rfl, rfl, hcx, hzb, hrz, hzlo⟩ := hcut
    have hcB17 := hcB.tr hcx
    have hbx17 := hbx16.keep hcx nbE
    have hby17 := hby16.keep hcx nbE
    have hbz17 := hbz16.keep hcx nbE
    have hbd17 := hbd.keep hcx nbE
    obtain ⟨vl2, vf2, rfl, hs0, hs1⟩ := reads_dm.1 hrz
    obtain ⟨pa2, pc2, rfl, _, _, _⟩ := reads_data hs0
    obtain ⟨qa2, qc2, rfl, _, _, _⟩ := reads_data hs1
    clear hs0 hs1
    have Hr2 := Lib.hid hrz
    have lzb := hzb.lt
    have ly17 := hby17.lt
    have hzlo15 : w15.heap.size ≤ zb := Nat.le_trans hcB.size hzlo
    have hzne : zb ≠ w15.heap.size := by
     have h1 := hbd.lt
     omega
    have y0 : wc.cell? ⟨w7.heap.size, 0, none⟩ = some (.int .i64 (0)) := hby17.cell 0
    have y1 : wc.cell? ⟨w7.heap.size, 1, none⟩ = some (.string rootName) := hby17.cell 1
    have y2 : wc.cell? ⟨w7.heap.size, 2, none⟩ = some (.int .i64 (1)) := hby17.cell 2
    have y3 : wc.cell? ⟨w7.heap.size, 3, none⟩ = some (.int .i64 (0)) := hby17.cell 3
    have y4 : wc.cell? ⟨w7.heap.size, 4, none⟩ = some (.slice ya yl yc) := hby17.cell 4
    have o0 : wc.cell? ⟨zb, 0, none⟩ = some (.bool f1) := hzb.cell 0
    have o1 : wc.cell? ⟨zb, 1, none⟩ = some (.int .i64 (f2)) := hzb.cell 1
    have o2 : wc.cell? ⟨zb, 2, none⟩ = some (.int .i64 (f3)) := hzb.cell 2
    have o3 : wc.cell? ⟨zb, 3, none⟩ = some (.string f4) := hzb.cell 3
    have o4 : wc.cell? ⟨zb, 4, none⟩ = some (.slice pa2 f5.length pc2) := hzb.cell 4
    have o5 : wc.cell? ⟨zb, 5, none⟩ = some (.slice qa2 f6.length qc2) := hzb.cell 5
    clear hrz hbx16 hby16 hbz16 hbd hcB hcx hzlo
    go_wp2_with fail
    refine wp_region_n (fun w' => w'.cell? ⟨w7.heap.size, 0, none⟩ = some (.int .i64 0) ∧ w'.cell? ⟨w7.heap.size, 1, none⟩ = some (.string rootName) ∧ w'.cell? ⟨w7.heap.size, 2, none⟩ = some (.int .i64 1) ∧ w'.cell? ⟨w7.heap.size, 3, none⟩ = some (.int .i64 0) ∧ w'.cell? ⟨w7.heap.size, 4, none⟩ = some (.slice ya yl yc) ∧ w'.cell? ⟨zb, 0, none⟩ = some (.bool f1) ∧ w'.cell? ⟨zb, 1, none⟩ = some (.int .i64 f2) ∧ w'.cell? ⟨zb, 2, none⟩ = some (.int .i64 f3) ∧ w'.cell? ⟨zb, 3, none⟩ = some (.string f4) ∧ w'.cell? ⟨zb, 4, none⟩ = some (.slice pa2 f5.length pc2) ∧ w'.cell? ⟨zb, 5, none⟩ = some (.slice qa2 f6.length qc2)) [] (by kernel_rfl) ?_ (fun hSh => ?_)
    ·exact ⟨y0, y1, y2, y3, y4, o0, o1, o2, o3, o4, o5⟩
    refine n_from 0 ?_
    intro htk
    iterate 5
     refine n_tB (v := ?_) htk rfl (Or.inl ⟨by rfl, ?_⟩) ?_
     rotate_left 1
     ·(intro w' hSw; (try dsimp only at hSw); go_simp; try with_reducible rfl)
     clear htk
     intro htk
     simp only [Nat.reduceAdd] at htk
     simp only [Act.put, qA, qB, qC, qD, qE, qF]
    clear htk
    refine n_step 5 rfl (by kernel_rfl) ?_
    go_wp2_with fail
    refine (ownDatum_any _ (.mk f1 f2 f3 f4 f5 f6) wc.drew _ _ (Nat.le_refl _) (Hr2.out.chg0 (Chg.refl NoB wc).drew) Hyo.out).mono ?_
    rintro en w21 ⟨cs8, rfl, hr8, hc8⟩
    obtain ⟨vl8, vf8, rfl, hs8, hs9⟩ := reads_dm.1 hr8
    obtain ⟨a8, c8, rfl, _, _, _⟩ := reads_data hs8
    obtain ⟨a9, c9, rfl, _, _, _⟩ := reads_data hs9
    clear hs8 hs9
    replace hc8 := hc8.ofDrew
    have hq := Chg.keepsN hc8
    have hSk := And.intro (hq _ _ y0) (And.intro (hq _ _ y1) (And.intro (hq _ _ y2) (And.intro (hq _ _ y3) (And.intro (hq _ _ y4) (And.intro (hq _ _ o0) (And.intro (hq _ _ o1) (And.intro (hq _ _ o2) (And.intro (hq _ _ o3) (And.intro (hq _ _ o4) (hq _ _ o5))))))))))
    clear hq
    go_wp2_with fail
    refine ⟨fun _ => hSk, fun _ => ?_⟩
    refine n_step 6 rfl (by kernel_rfl) ?_
    go_wp2_with fail
    refine (HK.out w21 _ (hcB17.tr hc8) (hr8.lt.mono (fun b hb => hb.2))).mono ?_
    rintro en w22 ⟨rfl, hc22⟩
    have hc1722 := hc8.tr hc22
    have hq := Chg.keepsN hc1722
    have hSk2 := And.intro (hq _ _ y0) (And.intro (hq _ _ y1) (And.intro (hq _ _ y2) (And.intro (hq _ _ y3) (And.intro (hq _ _ y4) (And.intro (hq _ _ o0) (And.intro (hq _ _ o1) (And.intro (hq _ _ o2) (And.intro (hq _ _ o3) (And.intro (hq _ _ o4) (hq _ _ o5))))))))))
    clear hq
    go_wp2_with fail
    refine ⟨fun _ => hSk2, fun _ => ?_⟩
    refine n_tA (v := ?_) 7 rfl (Or.inl ⟨by rfl, ?_⟩) ?_
    rotate_left 1
    ·(intro w' hSw; (try dsimp only at hSw); go_simp; try with_reducible rfl)
    simp only [Act.put, qA, qB, qC, qD, qE, qF]
    refine n_tA (v := ?_) 8 rfl (Or.inl ⟨by rfl, ?_⟩) ?_
    rotate_left 1
    ·(intro w' hSw; (try dsimp only at hSw); go_simp; try with_reducible rfl)
    simp only [Act.put, qA, qB, qC, qD, qE, qF]
    refine n_done (by kernel_rfl) ?_
    have hcB22 := hcB17.tr hc1722
    have hby22 := hby17.keep hc1722 nbE
    have hbz22 := hbz17.keep hc1722 nbE
    have hzb22 := hzb.keep hc1722 nbE
    have ly22 := hby22.lt
    have lz22 := hbz22.lt
    have lzb22 := hzb22.lt
    clear hSk hSk2 hSh y0 y1 y2 y3 y4 o0 o1 o2 o3 o4 o5 hr8 hc8 hc22 ly17 lzb
    have y0 : w22.cell? ⟨w7.heap.size, 0, none⟩ = some (.int .i64 (0)) := hby22.cell 0
    have y1 : w22.cell? ⟨w7.heap.size, 1, none⟩ = some (.string rootName) := hby22.cell 1
    have y2 : w22.cell? ⟨w7.heap.size, 2, none⟩ = some (.int .i64 (1)) := hby22.cell 2
    have y3 : w22.cell? ⟨w7.heap.size, 3, none⟩ = some (.int .i64 (0)) := hby22.cell 3
    have y4 : w22.cell? ⟨w7.heap.size, 4, none⟩ = some (.slice ya yl yc) := hby22.cell 4
    have z0 : w22.cell? ⟨w10.heap.size, 0, none⟩ = some (.int .i64 (0)) := hbz22.cell 0
    have z1 : w22.cell? ⟨w10.heap.size, 1, none⟩ = some (.string rootName) := hbz22.cell 1
    have z2 : w22.cell? ⟨w10.heap.size, 2, none⟩ = some (.int .i64 (1)) := hbz22.cell 2
    have z3 : w22.cell? ⟨w10.heap.size, 3, none⟩ = some (.int .i64 (0)) := hbz22.cell 3
    have z4 : w22.cell? ⟨w10.heap.size, 4, none⟩ = some (.slice za zl zc) := hbz22.cell 4
    have o0 : w22.cell? ⟨zb, 0, none⟩ = some (.bool f1) := hzb22.cell 0
    have o1 : w22.cell? ⟨zb, 1, none⟩ = some (.int .i64 (f2)) := hzb22.cell 1
    have o2 : w22.cell? ⟨zb, 2, none⟩ = some (.int .i64 (f3)) := hzb22.cell 2
    have o3 : w22.cell? ⟨zb, 3, none⟩ = some (.string f4) := hzb22.cell 3
    have o4 : w22.cell? ⟨zb, 4, none⟩ = some (.slice pa2 f5.length pc2) := hzb22.cell 4
    have o5 : w22.cell? ⟨zb, 5, none⟩ = some (.slice qa2 f6.length qc2) := hzb22.cell 5
    go_wp2_with fail
    refine (HC4.out w22 _ hcB22 ((Hr2.out.chg0 hc1722).mono (fun b hb => Nat.lt_of_lt_of_le hb.1 hc1722.size))).mono ?_
    rintro en w23 ⟨gcs, rfl, hr23, hc23⟩
    obtain ⟨g1, g2, g3, g4, g5, g6⟩ := xz
    obtain ⟨vl3, vf3, rfl, hs0, hs1⟩ := reads_dm.1 hr23
    obtain ⟨pa3, pc3, rfl, _, _, _⟩ := reads_data hs0
    obtain ⟨qa3, qc3, rfl, _, _, _⟩ := reads_data hs1
    clear hs0 hs1 y0 y1 y2 y3 y4 z0 z1 z2 z3 z4 o0 o1 o2 o3 o4 o5
    have hzb23 := hzb22.keep hc23 nbE
    have o0 : w23.cell? ⟨zb, 0, none⟩ = some (.bool f1) := hzb23.cell 0
    have o1 : w23.cell? ⟨zb, 1, none⟩ = some (.int .i64 (f2)) := hzb23.cell 1
    have o2 : w23.cell? ⟨zb, 2, none⟩ = some (.int .i64 (f3)) := hzb23.cell 2
    have o3 : w23.cell? ⟨zb, 3, none⟩ = some (.string f4) := hzb23.cell 3
    have o4 : w23.cell? ⟨zb, 4, none⟩ = some (.slice pa2 f5.length pc2) := hzb23.cell 4
    have o5 : w23.cell? ⟨zb, 5, none⟩ = some (.slice qa2 f6.length qc2) := hzb23.cell 5
    have ff0 : w23.frozen? ⟨zb, 0, none⟩ = false := hzb23.free 0
    have ff1 : w23.frozen? ⟨zb, 1, none⟩ = false := hzb23.free 1
    have ff2 : w23.frozen? ⟨zb, 2, none⟩ = false := hzb23.free 2
    have ff3 : w23.frozen? ⟨zb, 3, none⟩ = false := hzb23.free 3
    have ff4 : w23.frozen? ⟨zb, 4, none⟩ = false := hzb23.free 4
    have ff5 : w23.frozen? ⟨zb, 5, none⟩ = false := hzb23.free 5
    have lzb23 := hzb23.lt
    go_upto_region 24 with fail
    have hbw := store6 hzb23 (.bool g1) (.int .i64 g2) (.int .i64 g3) (.string g4) (.slice pa3 g5.length pc3) (.slice qa3 g6.length qc3)
    have hsE := store6_chg w23 zb (.bool g1) (.int .i64 g2) (.int .i64 g3) (.string g4) (.slice pa3 g5.length pc3) (.slice qa3 g6.length qc3)
    generalize World.setCell (World.setCell (World.setCell (World.setCell (World.setCell (World.setCell w23 ⟨zb, 0, none⟩ (.bool g1)) ⟨zb, 1, none⟩ (.int .i64 g2)) ⟨zb, 2, none⟩ (.int .i64 g3)) ⟨zb, 3, none⟩ (.string g4)) ⟨zb, 4, none⟩ (.slice pa3 g5.length pc3)) ⟨zb, 5, none⟩ (.slice qa3 g6.length qc3) = w24 at hbw hsE ⊢
    have hc1723 := hc1722.tr hc23
    have hs15 := hc15.size
    have hlx := hbx17.lt
    have hlz := hbz17.lt
    have hld := hbd17.lt
    have hnx : w4.heap.size ≠ zb := by omega
    have hnz : w10.heap.size ≠ zb := by omega
    have hbx24 := (hbx17.keep hc1723 nbE).keep hsE (fun e => hnx e)
    have hbz24 := (hbz17.keep hc1723 nbE).keep hsE (fun e => hnz e)
    have hbd24 := (hbd17.keep hc1723 nbE).keep hsE (fun e => hzne e.symm)
    have hcB : Chg NoB w15 w24 := (hcB22.tr hc23).trans hsE (fun b e => .inr (by have e : b = zb := e; omega))
    have hr24 : Reads w24 (fun _ => True) (Dm.dt (.mk g1 g2 g3 g4 g5 g6)) [.bool g1, .int .i64 g2, .int .i64 g3, .string g4, .slice pa3 g5.length pc3, .slice qa3 g6.length qc3] := (hr23.chg hsE (fun b hb e => by have hb : w22.heap.size ≤ b := hb; have e : b = zb := e; omega)).mono (fun _ _ => True.intro)
    have Hr24 := Lib.hid hr24
    clear hr24 hr23 hc23 hc1723 hc1722 hcB17 hcB22 hbx17 hby17 hbz17 hbd17 hby22 hbz22 hzb22 hzb23 hzb hsE o0 o1 o2 o3 o4 o5 ff0 ff1 ff2 ff3 ff4 ff5 lzb23 ly22 lz22 lzb22 Hr2 hlx hlz hld
    go_upto_region 24 with fail
    go_cut [24, 16] (fun vb ve wx => ∃ (zb : Nat) (cz : List Value), vb = .pointer (some ⟨zb, 0, none⟩) ∧ ve = .nilIface ∧ Chg NoB w24 wx ∧ Blk wx zb cz 43 ∧ Reads wx (fun b => b < wx.heap.size ∧ b ≠ zb) (Dm.dt (.mk g1 g2 g3 g4 g5 g6)) cz ∧ (w24).heap.size ≤ zb)
    case first =>
     as_aux_lemma =>
      clear Hr Hcell Hsb hes Hlo hnaI hnbI hlcI HsumT htz hc05 hc06 hc07 hc08 hc09 hc010 hDw4 hDw7 hDw10 hc5 hc8 Hxl Hyl Hzl Hrx Hry Hrz Htx Hty Htz hx0 hy0 hz0 bx byy bz bx2 by2 bz2 hnm hmk H3 HRx HRy HRz
      clear hG hsz hl hlc hcm hl2 hc1 hc2 hc02 hab hbl h1 h2 h3 hltI hc11 hc12 hc13 hc14 hc15 hc1014 hc1015 hcw15 hEk lx ly lx14 ly14 lz14 hpp
      have lA := (hbx24).lt
      have lB := (hbz24).lt
      have lD := (hbd24).lt
      have x0 : w24.cell? ⟨w4.heap.size, 0, none⟩ = some (.int .i64 (0)) := hbx24.cell 0
      have x1 : w24.cell? ⟨w4.heap.size, 1, none⟩ = some (.string rootName) := hbx24.cell 1
      have x2 : w24.cell? ⟨w4.heap.size, 2, none⟩ = some (.int .i64 (1)) := hbx24.cell 2
      have x3 : w24.cell? ⟨w4.heap.size, 3, none⟩ = some (.int .i64 (0)) := hbx24.cell 3
      have x4 : w24.cell? ⟨w4.heap.size, 4, none⟩ = some (.slice xa xl xc) := hbx24.cell 4
      have y0 : w24.cell? ⟨w10.heap.size, 0, none⟩ = some (.int .i64 (0)) := hbz24.cell 0
      have y1 : w24.cell? ⟨w10.heap.size, 1, none⟩ = some (.string rootName) := hbz24.cell 1
      have y2 : w24.cell? ⟨w10.heap.size, 2, none⟩ = some (.int .i64 (1)) := hbz24.cell 2
      have y3 : w24.cell? ⟨w10.heap.size, 3, none⟩ = some (.int .i64 (0)) := hbz24.cell 3
      have y4 : w24.cell? ⟨w10.heap.size, 4, none⟩ = some (.slice za zl zc) := hbz24.cell 4
      have z0 : w24.cell? ⟨w15.heap.size, 0, none⟩ = some (.bool dn) := hbd24.cell 0
      have z1 : w24.cell? ⟨w15.heap.size, 1, none⟩ = some (.int .i64 (dk)) := hbd24.cell 1
      have z2 : w24.cell? ⟨w15.heap.size, 2, none⟩ = some (.int .i64 (dv)) := hbd24.cell 2
      have z3 : w24.cell? ⟨w15.heap.size, 3, none⟩ = some (.string ds) := hbd24.cell 3
      have z4 : w24.cell? ⟨w15.heap.size, 4, none⟩ = some (.slice pa dl.length pc) := hbd24.cell 4
      have z5 : w24.cell? ⟨w15.heap.size, 5, none⟩ = some (.slice qa df.length qc) := hbd24.cell 5
      refine wp_region_n (fun w' => w'.cell? ⟨w4.heap.size, 0, none⟩ = some (.int .i64 0) ∧ w'.cell? ⟨w4.heap.size, 1, none⟩ = some (.string rootName) ∧ w'.cell? ⟨w4.heap.size, 2, none⟩ = some (.int .i64 1) ∧ w'.cell? ⟨w4.heap.size, 3, none⟩ = some (.int .i64 0) ∧ w'.cell? ⟨w4.heap.size, 4, none⟩ = some (.slice xa xl xc) ∧ w'.cell? ⟨w10.heap.size, 0, none⟩ = some (.int .i64 0) ∧ w'.cell? ⟨w10.heap.size, 1, none⟩ = some (.string rootName) ∧ w'.cell? ⟨w10.heap.size, 2, none⟩ = some (.int .i64 1) ∧ w'.cell? ⟨w10.heap.size, 3, none⟩ = some (.int .i64 0) ∧ w'.cell? ⟨w10.heap.size, 4, none⟩ = some (.slice za zl zc) ∧ w'.cell? ⟨w15.heap.size, 0, none⟩ = some (.bool dn) ∧ w'.cell? ⟨w15.heap.size, 1, none⟩ = some (.int .i64 dk) ∧ w'.cell? ⟨w15.heap.size, 2, none⟩ = some (.int .i64 dv) ∧ w'.cell? ⟨w15.heap.size, 3, none⟩ = some (.string ds) ∧ w'.cell? ⟨w15.heap.size, 4, none⟩ = some (.slice pa dl.length pc) ∧ w'.cell? ⟨w15.heap.size, 5, none⟩ = some (.slice qa df.length qc)) [] (by kernel_rfl) ?_ (fun hSh => ?_)
      ·exact ⟨x0, x1, x2, x3, x4, y0, y1, y2, y3, y4, z0, z1, z2, z3, z4, z5⟩
      clear x0 x1 x2 x3 x4 y0 y1 y2 y3 y4 z0 z1 z2 z3 z4 z5
      have hwk : Chg NoB w24 (w24).drew := (Chg.refl _ _).drew
      have hck := hcB.drew
      generalize World.drew w24 = wv at hSh hwk hck ⊢
      have hkk : Chg NoB wv wv := Chg.refl _ _
      obtain ⟨x0, x1, x2, x3, x4, y0, y1, y2, y3, y4, z0, z1, z2, z3, z4, z5⟩ := hSh
      have hSh := And.intro x0 (And.intro x1 (And.intro x2 (And.intro x3 (And.intro x4 (And.intro y0 (And.intro y1 (And.intro y2 (And.intro y3 (And.intro y4 (And.intro z0 (And.intro z1 (And.intro z2 (And.intro z3 (And.intro z4 z5))))))))))))))
      have hvs := hwk.size
      refine n_tA (v := ?_) 0 rfl (Or.inl ⟨by rfl, ?_⟩) ?_
      rotate_left 1
      ·(intro w' hSw; (try dsimp only at hSw); go_simp; try with_reducible rfl)
      simp only [Act.put, qA, qB, qC, qD, qE, qF]
      refine n_tA (v := ?_) 1 rfl (Or.inl ⟨by rfl, ?_⟩) ?_
      rotate_left 1
      ·(intro w' hSw; (try dsimp only at hSw); go_simp; try with_reducible rfl)
      simp only [Act.put, qA, qB, qC, qD, qE, qF]
      refine n_tA (v := ?_) 2 rfl (Or.inl ⟨by rfl, ?_⟩) ?_
      rotate_left 1
      ·(intro w' hSw; (try dsimp only at hSw); go_simp; try with_reducible rfl)
      simp only [Act.put, qA, qB, qC, qD, qE, qF]
      refine n_fork 3 8 rfl rfl (by kernel_rfl) ?_ ?_
      ·go_wp2_with fail
       refine (HD.out _ hck).mono ?_
       rintro en wn ⟨cs8, rfl, hr8, hc8⟩
       obtain ⟨vl8, vf8, rfl, hs8, hs9⟩ := reads_dm.1 hr8
       obtain ⟨a8, c8, rfl, _, _, _⟩ := reads_data hs8
       obtain ⟨a9, c9, rfl, _, _, _⟩ := reads_data hs9
       clear hs8 hs9
       go_wp2_with fail
       replace hck := hck.tr hc8
       replace hkk := hkk.tr hc8
       (try replace hzz := hzz.keep hc8 nbE)
       have hq := Chg.keepsN hkk
       have hSk := And.intro (hq _ _ x0) (And.intro (hq _ _ x1) (And.intro (hq _ _ x2) (And.intro (hq _ _ x3) (And.intro (hq _ _ x4) (And.intro (hq _ _ y0) (And.intro (hq _ _ y1) (And.intro (hq _ _ y2) (And.intro (hq _ _ y3) (And.intro (hq _ _ y4) (And.intro (hq _ _ z0) (And.intro (hq _ _ z1) (And.intro (hq _ _ z2) (And.intro (hq _ _ z3) (And.intro (hq _ _ z4) (hq _ _ z5)))))))))))))))
       clear hq
       refine ⟨fun _ => hSk, fun _ => ?_⟩
       refine n_fork 4 8 rfl rfl (by kernel_rfl) ?_ ?_
       ·go_wp2_with fail
        have hr8l := hr8.lt
        refine (HC3.out wn _ hck (hr8l.mono (fun b hb => hb.2))).mono ?_
        rintro en we ⟨ycs, rfl, hry, hce⟩
        obtain ⟨vl5, vf5, rfl, hs8, hs9⟩ := reads_dm.1 hry
        obtain ⟨a5, c5, rfl, _, _, _⟩ := reads_data hs8
        obtain ⟨a6, c6, rfl, _, _, _⟩ := reads_data hs9
        clear hs8 hs9
        go_wp2_with fail
        replace hck := hck.tr hce
        replace hkk := hkk.tr hce
        (try replace hzz := hzz.keep hce nbE)
        have hq := Chg.keepsN hkk
        have hSk := And.intro (hq _ _ x0) (And.intro (hq _ _ x1) (And.intro (hq _ _ x2) (And.intro (hq _ _ x3) (And.intro (hq _ _ x4) (And.intro (hq _ _ y0) (And.intro (hq _ _ y1) (And.intro (hq _ _ y2) (And.intro (hq _ _ y3) (And.intro (hq _ _ y4) (And.intro (hq _ _ z0) (And.intro (hq _ _ z1) (And.intro (hq _ _ z2) (And.intro (hq _ _ z3) (And.intro (hq _ _ z4) (hq _ _ z5)))))))))))))))
        clear hq
        refine ⟨fun _ => hSk, fun _ => ?_⟩
        refine n_from 5 ?_
        intro htk
        iterate 3
         refine n_tB (v := ?_) htk rfl (Or.inl ⟨by rfl, ?_⟩) ?_
         rotate_left 1
         ·(intro w' hSw; (try dsimp only at hSw); go_simp; try with_reducible rfl)
         clear htk
         intro htk
         simp only [Nat.reduceAdd] at htk
         simp only [Act.put, qA, qB, qC, qD, qE, qF]
        clear htk
        have hrl := hry.lt
        refine n_step 8 rfl (by kernel_rfl) ?_
        go_wp2_with fail
        have hzk := hkk.size
        generalize hwz : World.alloc we _ = wz
        have hcz : Chg NoB we wz := by
         rw [← hwz]
         exact (Chg.refl _ _).alloc _
        have hzz : Blk wz (we).heap.size (dmCells false 0 0 ⟨#[]⟩ (.slice none 0 0) (.slice none 0 0)) 43 := by
         rw [← hwz]
         exact Blk.newAt rfl
        have hzl := hzz.lt
        clear hwz
        replace hck := hck.tr hcz
        replace hkk := hkk.tr hcz
        (try replace hr8 := hr8.chg0 hcz)
        have hq := Chg.keepsN hkk
        have hSk := And.intro (hq _ _ x0) (And.intro (hq _ _ x1) (And.intro (hq _ _ x2) (And.intro (hq _ _ x3) (And.intro (hq _ _ x4) (And.intro (hq _ _ y0) (And.intro (hq _ _ y1) (And.intro (hq _ _ y2) (And.intro (hq _ _ y3) (And.intro (hq _ _ y4) (And.intro (hq _ _ z0) (And.intro (hq _ _ z1) (And.intro (hq _ _ z2) (And.intro (hq _ _ z3) (And.intro (hq _ _ z4) (hq _ _ z5)))))))))))))))
        clear hq
        refine ⟨fun _ => hSk, fun _ => ?_⟩
        have hryz := (hrl.chg0 hcz).mono (S' := fun b => b < wz.heap.size ∧ b ≠ we.heap.size) (fun b hb => ⟨by have := hb.2; have := hcz.size; omega, by have := hb.2; omega⟩)
        refine n_step 9 rfl (by kernel_rfl) ?_
        have o0 : wz.cell? ⟨we.heap.size, 0, none⟩ = some (.bool false) := hzz.cell 0
        have o1 : wz.cell? ⟨we.heap.size, 1, none⟩ = some (.int .i64 (0)) := hzz.cell 1
        have o2 : wz.cell? ⟨we.heap.size, 2, none⟩ = some (.int .i64 (0)) := hzz.cell 2
        have o3 : wz.cell? ⟨we.heap.size, 3, none⟩ = some (.string ⟨#[]⟩) := hzz.cell 3
        have o4 : wz.cell? ⟨we.heap.size, 4, none⟩ = some (.slice none 0 0) := hzz.cell 4
        have o5 : wz.cell? ⟨we.heap.size, 5, none⟩ = some (.slice none 0 0) := hzz.cell 5
        have ff0 : wz.frozen? ⟨we.heap.size, 0, none⟩ = false := hzz.free 0
        have ff1 : wz.frozen? ⟨we.heap.size, 1, none⟩ = false := hzz.free 1
        have ff2 : wz.frozen? ⟨we.heap.size, 2, none⟩ = false := hzz.free 2
        have ff3 : wz.frozen? ⟨we.heap.size, 3, none⟩ = false := hzz.free 3
        have ff4 : wz.frozen? ⟨we.heap.size, 4, none⟩ = false := hzz.free 4
        have ff5 : wz.frozen? ⟨we.heap.size, 5, none⟩ = false := hzz.free 5
        have hzl9 := hzz.lt
        go_wp2_with fail
        have hsE := store6_chg wz (we.heap.size) (.bool g1) (.int .i64 g2) (.int .i64 g3) (.string g4) (.slice a5 (g5).length c5) (.slice a6 (g6).length c6)
        have hfi : Chg (OneB (we.heap.size)) wv wz := (Chg.refl (OneB (we.heap.size)) wv).trans hkk (fun b e => nbE e)
        have hfin := hfi.trans hsE (fun b e => .inl e)
        refine ⟨fun _ => ?_, fun hSk => ?_⟩
        ·have hq := Chg.keepsOn hfin
         have hb0 : w4.heap.size ≠ we.heap.size := by omega
         have hb1 : w10.heap.size ≠ we.heap.size := by omega
         have hb2 : w15.heap.size ≠ we.heap.size := by omega
         exact ⟨hq _ _ hb0 x0, hq _ _ hb0 x1, hq _ _ hb0 x2, hq _ _ hb0 x3, hq _ _ hb0 x4, hq _ _ hb1 y0, hq _ _ hb1 y1, hq _ _ hb1 y2, hq _ _ hb1 y3, hq _ _ hb1 y4, hq _ _ hb2 z0, hq _ _ hb2 z1, hq _ _ hb2 z2, hq _ _ hb2 z3, hq _ _ hb2 z4, hq _ _ hb2 z5⟩
        replace hSk := hSk (by rfl)
        refine n_tA (v := ?_) 10 rfl (Or.inl ⟨by rfl, ?_⟩) ?_
        rotate_left 1
        ·(intro w' hSw; (try dsimp only at hSw); go_simp; try with_reducible rfl)
        simp only [Act.put, qA, qB, qC, qD, qE, qF]
        refine n_done (by kernel_rfl) ?_
        go_wp2_with fail
        go_meet
        have hsz9 := hsE.size
        exact ⟨we.heap.size, _, rfl, rfl, (hwk.tr hkk).trans hsE (fun b e => .inr (by have e : b = we.heap.size := e; have h1 := hwk.size; omega)), store6 hzz _ _ _ _ _ _, (hryz.chg hsE (fun b hb e => hb.2 e)).mono (fun b hb => ⟨Nat.lt_of_lt_of_le hb.1 hsz9, hb.2⟩), by have h1 := hwk.size; omega⟩
       ·go_wp2_with fail
        have hzk := hkk.size
        generalize hwz : World.alloc wn _ = wz
        have hcz : Chg NoB wn wz := by
         rw [← hwz]
         exact (Chg.refl _ _).alloc _
        have hzz : Blk wz (wn).heap.size (dmCells false 0 0 ⟨#[]⟩ (.slice none 0 0) (.slice none 0 0)) 43 := by
         rw [← hwz]
         exact Blk.newAt rfl
        have hzl := hzz.lt
        clear hwz
        replace hck := hck.tr hcz
        replace hkk := hkk.tr hcz
        (try replace hr8 := hr8.chg0 hcz)
        have hq := Chg.keepsN hkk
        have hSk := And.intro (hq _ _ x0) (And.intro (hq _ _ x1) (And.intro (hq _ _ x2) (And.intro (hq _ _ x3) (And.intro (hq _ _ x4) (And.intro (hq _ _ y0) (And.intro (hq _ _ y1) (And.intro (hq _ _ y2) (And.intro (hq _ _ y3) (And.intro (hq _ _ y4) (And.intro (hq _ _ z0) (And.intro (hq _ _ z1) (And.intro (hq _ _ z2) (And.intro (hq _ _ z3) (And.intro (hq _ _ z4) (hq _ _ z5)))))))))))))))
        clear hq
        refine ⟨fun _ => hSk, fun _ => ?_⟩
        refine n_step 4 rfl (by kernel_rfl) ?_
        go_wp2_with fail
        have hr8l := hr8.lt
        refine (HC3.out wz _ hck (hr8l.mono (fun b hb => hb.2))).mono ?_
        rintro en we ⟨ycs, rfl, hry, hce⟩
        obtain ⟨vl5, vf5, rfl, hs8, hs9⟩ := reads_dm.1 hry
        obtain ⟨a5, c5, rfl, _, _, _⟩ := reads_data hs8
        obtain ⟨a6, c6, rfl, _, _, _⟩ := reads_data hs9
        clear hs8 hs9
        go_wp2_with fail
        replace hck := hck.tr hce
        replace hkk := hkk.tr hce
        (try replace hzz := hzz.keep hce nbE)
        have hq := Chg.keepsN hkk
        have hSk := And.intro (hq _ _ x0) (And.intro (hq _ _ x1) (And.intro (hq _ _ x2) (And.intro (hq _ _ x3) (And.intro (hq _ _ x4) (And.intro (hq _ _ y0) (And.intro (hq _ _ y1) (And.intro (hq _ _ y2) (And.intro (hq _ _ y3) (And.intro (hq _ _ y4) (And.intro (hq _ _ z0) (And.intro (hq _ _ z1) (And.intro (hq _ _ z2) (And.intro (hq _ _ z3) (And.intro (hq _ _ z4) (hq _ _ z5)))))))))))))))
        clear hq
        refine ⟨fun _ => hSk, fun _ => ?_⟩
        refine n_from 5 ?_
        intro htk
        iterate 3
         refine n_tB (v := ?_) htk rfl (Or.inl ⟨by rfl, ?_⟩) ?_
         rotate_left 1
         ·(intro w' hSw; (try dsimp only at hSw); go_simp; try with_reducible rfl)
         clear htk
         intro htk
         simp only [Nat.reduceAdd] at htk
         simp only [Act.put, qA, qB, qC, qD, qE, qF]
        clear htk
        have hryz := hry.lt.mono (S' := fun b => b < we.heap.size ∧ b ≠ wn.heap.size) (fun b hb => ⟨hb.2, by have h1 : wz.heap.size ≤ b := hb.1; omega⟩)
        refine n_step 9 rfl (by kernel_rfl) ?_
        have o0 : we.cell? ⟨wn.heap.size, 0, none⟩ = some (.bool false) := hzz.cell 0
        have o1 : we.cell? ⟨wn.heap.size, 1, none⟩ = some (.int .i64 (0)) := hzz.cell 1
        have o2 : we.cell? ⟨wn.heap.size, 2, none⟩ = some (.int .i64 (0)) := hzz.cell 2
        have o3 : we.cell? ⟨wn.heap.size, 3, none⟩ = some (.string ⟨#[]⟩) := hzz.cell 3
        have o4 : we.cell? ⟨wn.heap.size, 4, none⟩ = some (.slice none 0 0) := hzz.cell 4
        have o5 : we.cell? ⟨wn.heap.size, 5, none⟩ = some (.slice none 0 0) := hzz.cell 5
        have ff0 : we.frozen? ⟨wn.heap.size, 0, none⟩ = false := hzz.free 0
        have ff1 : we.frozen? ⟨wn.heap.size, 1, none⟩ = false := hzz.free 1
        have ff2 : we.frozen? ⟨wn.heap.size, 2, none⟩ = false := hzz.free 2
        have ff3 : we.frozen? ⟨wn.heap.size, 3, none⟩ = false := hzz.free 3
        have ff4 : we.frozen? ⟨wn.heap.size, 4, none⟩ = false := hzz.free 4
        have ff5 : we.frozen? ⟨wn.heap.size, 5, none⟩ = false := hzz.free 5
        have hzl9 := hzz.lt
        go_wp2_with fail
        have hsE := store6_chg we (wn.heap.size) (.bool g1) (.int .i64 g2) (.int .i64 g3) (.string g4) (.slice a5 (g5).length c5) (.slice a6 (g6).length c6)
        have hfi : Chg (OneB (wn.heap.size)) wv we := (Chg.refl (OneB (wn.heap.size)) wv).trans hkk (fun b e => nbE e)
        have hfin := hfi.trans hsE (fun b e => .inl e)
        refine ⟨fun _ => ?_, fun hSk => ?_⟩
        ·have hq := Chg.keepsOn hfin
         have hb0 : w4.heap.size ≠ wn.heap.size := by omega
         have hb1 : w10.heap.size ≠ wn.heap.size := by omega
         have hb2 : w15.heap.size ≠ wn.heap.size := by omega
         exact ⟨hq _ _ hb0 x0, hq _ _ hb0 x1, hq _ _ hb0 x2, hq _ _ hb0 x3, hq _ _ hb0 x4, hq _ _ hb1 y0, hq _ _ hb1 y1, hq _ _ hb1 y2, hq _ _ hb1 y3, hq _ _ hb1 y4, hq _ _ hb2 z0, hq _ _ hb2 z1, hq _ _ hb2 z2, hq _ _ hb2 z3, hq _ _ hb2 z4, hq _ _ hb2 z5⟩
        replace hSk := hSk (by rfl)
        refine n_tA (v := ?_) 10 rfl (Or.inl ⟨by rfl, ?_⟩) ?_
        rotate_left 1
        ·(intro w' hSw; (try dsimp only at hSw); go_simp; try with_reducible rfl)
        simp only [Act.put, qA, qB, qC, qD, qE, qF]
        refine n_done (by kernel_rfl) ?_
        go_wp2_with fail
        go_meet
        have hsz9 := hsE.size
        exact ⟨wn.heap.size, _, rfl, rfl, (hwk.tr hkk).trans hsE (fun b e => .inr (by have e : b = wn.heap.size := e; have h1 := hwk.size; omega)), store6 hzz _ _ _ _ _ _, (hryz.chg hsE (fun b hb e => hb.2 e)).mono (fun b hb => ⟨Nat.lt_of_lt_of_le hb.1 hsz9, hb.2⟩), by have h1 := hwk.size; omega⟩
      ·go_wp2_with fail
       have hzk := hkk.size
       generalize hwz : World.alloc wv _ = wz
       have hcz : Chg NoB wv wz := by
        rw [← hwz]
        exact (Chg.refl _ _).alloc _
       have hzz : Blk wz (wv).heap.size (dmCells false 0 0 ⟨#[]⟩ (.slice none 0 0) (.slice none 0 0)) 43 := by
        rw [← hwz]
        exact Blk.newAt rfl
       have hzl := hzz.lt
       clear hwz
       replace hck := hck.tr hcz
       replace hkk := hkk.tr hcz
       (try replace hr8 := hr8.chg0 hcz)
       have hq := Chg.keepsN hkk
       have hSk := And.intro (hq _ _ x0) (And.intro (hq _ _ x1) (And.intro (hq _ _ x2) (And.intro (hq _ _ x3) (And.intro (hq _ _ x4) (And.intro (hq _ _ y0) (And.intro (hq _ _ y1) (And.intro (hq _ _ y2) (And.intro (hq _ _ y3) (And.intro (hq _ _ y4) (And.intro (hq _ _ z0) (And.intro (hq _ _ z1) (And.intro (hq _ _ z2) (And.intro (hq _ _ z3) (And.intro (hq _ _ z4) (hq _ _ z5)))))))))))))))
       clear hq
       refine ⟨fun _ => hSk, fun _ => ?_⟩
       refine n_step 3 rfl (by kernel_rfl) ?_
       go_wp2_with fail
       refine (HD.out _ hck).mono ?_
       rintro en wn ⟨cs8, rfl, hr8, hc8⟩
       obtain ⟨vl8, vf8, rfl, hs8, hs9⟩ := reads_dm.1 hr8
       obtain ⟨a8, c8, rfl, _, _, _⟩ := reads_data hs8
       obtain ⟨a9, c9, rfl, _, _, _⟩ := reads_data hs9
       clear hs8 hs9
       go_wp2_with fail
       replace hck := hck.tr hc8
       replace hkk := hkk.tr hc8
       (try replace hzz := hzz.keep hc8 nbE)
       have hq := Chg.keepsN hkk
       have hSk := And.intro (hq _ _ x0) (And.intro (hq _ _ x1) (And.intro (hq _ _ x2) (And.intro (hq _ _ x3) (And.intro (hq _ _ x4) (And.intro (hq _ _ y0) (And.intro (hq _ _ y1) (And.intro (hq _ _ y2) (And.intro (hq _ _ y3) (And.intro (hq _ _ y4) (And.intro (hq _ _ z0) (And.intro (hq _ _ z1) (And.intro (hq _ _ z2) (And.intro (hq _ _ z3) (And.intro (hq _ _ z4) (hq _ _ z5)))))))))))))))
       clear hq
       refine ⟨fun _ => hSk, fun _ => ?_⟩
       refine n_step 4 rfl (by kernel_rfl) ?_
       go_wp2_with fail
       have hr8l := hr8.lt
       refine (HC3.out wn _ hck (hr8l.mono (fun b hb => hb.2))).mono ?_
       rintro en we ⟨ycs, rfl, hry, hce⟩
       obtain ⟨vl5, vf5, rfl, hs8, hs9⟩ := reads_dm.1 hry
       obtain ⟨a5, c5, rfl, _, _, _⟩ := reads_data hs8
       obtain ⟨a6, c6, rfl, _, _, _⟩ := reads_data hs9
       clear hs8 hs9
       go_wp2_with fail
       replace hck := hck.tr hce
       replace hkk := hkk.tr hce
       (try replace hzz := hzz.keep hce nbE)
       have hq := Chg.keepsN hkk
       have hSk := And.intro (hq _ _ x0) (And.intro (hq _ _ x1) (And.intro (hq _ _ x2) (And.intro (hq _ _ x3) (And.intro (hq _ _ x4) (And.intro (hq _ _ y0) (And.intro (hq _ _ y1) (And.intro (hq _ _ y2) (And.intro (hq _ _ y3) (And.intro (hq _ _ y4) (And.intro (hq _ _ z0) (And.intro (hq _ _ z1) (And.intro (hq _ _ z2) (And.intro (hq _ _ z3) (And.intro (hq _ _ z4) (hq _ _ z5)))))))))))))))
       clear hq
       refine ⟨fun _ => hSk, fun _ => ?_⟩
       refine n_from 5 ?_
       intro htk
       iterate 3
        refine n_tB (v := ?_) htk rfl (Or.inl ⟨by rfl, ?_⟩) ?_
        rotate_left 1
        ·(intro w' hSw; (try dsimp only at hSw); go_simp; try with_reducible rfl)
        clear htk
        intro htk
        simp only [Nat.reduceAdd] at htk
        simp only [Act.put, qA, qB, qC, qD, qE, qF]
       clear htk
       have hryz := hry.lt.mono (S' := fun b => b < we.heap.size ∧ b ≠ wv.heap.size) (fun b hb => ⟨hb.2, by have h1 : wn.heap.size ≤ b := hb.1; have h2 := hc8.size; omega⟩)
       refine n_step 9 rfl (by kernel_rfl) ?_
       have o0 : we.cell? ⟨wv.heap.size, 0, none⟩ = some (.bool false) := hzz.cell 0
       have o1 : we.cell? ⟨wv.heap.size, 1, none⟩ = some (.int .i64 (0)) := hzz.cell 1
       have o2 : we.cell? ⟨wv.heap.size, 2, none⟩ = some (.int .i64 (0)) := hzz.cell 2
       have o3 : we.cell? ⟨wv.heap.size, 3, none⟩ = some (.string ⟨#[]⟩) := hzz.cell 3
       have o4 : we.cell? ⟨wv.heap.size, 4, none⟩ = some (.slice none 0 0) := hzz.cell 4
       have o5 : we.cell? ⟨wv.heap.size, 5, none⟩ = some (.slice none 0 0) := hzz.cell 5
       have ff0 : we.frozen? ⟨wv.heap.size, 0, none⟩ = false := hzz.free 0
       have ff1 : we.frozen? ⟨wv.heap.size, 1, none⟩ = false := hzz.free 1
       have ff2 : we.frozen? ⟨wv.heap.size, 2, none⟩ = false := hzz.free 2
       have ff3 : we.frozen? ⟨wv.heap.size, 3, none⟩ = false := hzz.free 3
       have ff4 : we.frozen? ⟨wv.heap.size, 4, none⟩ = false := hzz.free 4
       have ff5 : we.frozen? ⟨wv.heap.size, 5, none⟩ = false := hzz.free 5
       have hzl9 := hzz.lt
       go_wp2_with fail
       have hsE := store6_chg we (wv.heap.size) (.bool g1) (.int .i64 g2) (.int .i64 g3) (.string g4) (.slice a5 (g5).length c5) (.slice a6 (g6).length c6)
       have hfi : Chg (OneB (wv.heap.size)) wv we := (Chg.refl (OneB (wv.heap.size)) wv).trans hkk (fun b e => nbE e)
       have hfin := hfi.trans hsE (fun b e => .inl e)
       refine ⟨fun _ => ?_, fun hSk => ?_⟩
       ·have hq := Chg.keepsOn hfin
        have hb0 : w4.heap.size ≠ wv.heap.size := by omega
        have hb1 : w10.heap.size ≠ wv.heap.size := by omega
        have hb2 : w15.heap.size ≠ wv.heap.size := by omega
        exact ⟨hq _ _ hb0 x0, hq _ _ hb0 x1, hq _ _ hb0 x2, hq _ _ hb0 x3, hq _ _ hb0 x4, hq _ _ hb1 y0, hq _ _ hb1 y1, hq _ _ hb1 y2, hq _ _ hb1 y3, hq _ _ hb1 y4, hq _ _ hb2 z0, hq _ _ hb2 z1, hq _ _ hb2 z2, hq _ _ hb2 z3, hq _ _ hb2 z4, hq _ _ hb2 z5⟩
       replace hSk := hSk (by rfl)
       refine n_tA (v := ?_) 10 rfl (Or.inl ⟨by rfl, ?_⟩) ?_
       rotate_left 1
       ·(intro w' hSw; (try dsimp only at hSw); go_simp; try with_reducible rfl)
       simp only [Act.put, qA, qB, qC, qD, qE, qF]
       refine n_done (by kernel_rfl) ?_
       go_wp2_with fail
       go_meet
       have hsz9 := hsE.size
       exact ⟨wv.heap.size, _, rfl, rfl, (hwk.tr hkk).trans hsE (fun b e => .inr (by have e : b = wv.heap.size := e; have h1 := hwk.size; omega)), store6 hzz _ _ _ _ _ _, (hryz.chg hsE (fun b hb e => hb.2 e)).mono (fun b hb => ⟨Nat.lt_of_lt_of_le hb.1 hsz9, hb.2⟩), by have h1 := hwk.size; omega⟩
    case rest =>
    obtain ⟨zo, cz, rfl, rfl, hcx, hzb, hrz, hzlo⟩ := hcut
    have hbw25 := hbw.keep hcx nbE
    obtain ⟨vl4, vf4, rfl, hs0, hs1⟩ := reads_dm.1 hrz
    obtain ⟨pa4, pc4, rfl, _, _, _⟩ := reads_data hs0
    obtain ⟨qa4, qc4, rfl, _, _, _⟩ := reads_data hs1
    have Hr25 := Lib.hid hrz
    clear hs0 hs1 hrz hbx24 hbz24 hbd24
    have o0 : wc.cell? ⟨zb, 0, none⟩ = some (.bool g1) := hbw25.cell 0
    have o1 : wc.cell? ⟨zb, 1, none⟩ = some (.int .i64 (g2)) := hbw25.cell 1
    have o2 : wc.cell? ⟨zb, 2, none⟩ = some (.int .i64 (g3)) := hbw25.cell 2
    have o3 : wc.cell? ⟨zb, 3, none⟩ = some (.string g4) := hbw25.cell 3
    have o4 : wc.cell? ⟨zb, 4, none⟩ = some (.slice pa3 g5.length pc3) := hbw25.cell 4
    have o5 : wc.cell? ⟨zb, 5, none⟩ = some (.slice qa3 g6.length qc3) := hbw25.cell 5
    have z0 : wc.cell? ⟨zo, 0, none⟩ = some (.bool g1) := hzb.cell 0
    have z1 : wc.cell? ⟨zo, 1, none⟩ = some (.int .i64 (g2)) := hzb.cell 1
    have z2 : wc.cell? ⟨zo, 2, none⟩ = some (.int .i64 (g3)) := hzb.cell 2
    have z3 : wc.cell? ⟨zo, 3, none⟩ = some (.string g4) := hzb.cell 3
    have z4 : wc.cell? ⟨zo, 4, none⟩ = some (.slice pa4 g5.length pc4) := hzb.cell 4
    have z5 : wc.cell? ⟨zo, 5, none⟩ = some (.slice qa4 g6.length qc4) := hzb.cell 5
    have l1 := hbw25.lt
    have l2 := hzb.lt
    go_wp2_with fail
    refine (sameDatum_yes _ (.mk g1 g2 g3 g4 g5 g6) wc _ _ _ _ (Nat.le_refl _) (Hr24.out.chg0 hcx) Hr25.out).mono ?_
    rintro en w26 ⟨rfl, hc26⟩
    go_wp2_with fail
    go_ret
    exact ⟨rfl, ((hcw15.tr hcB).tr hcx).tr hc26⟩
end Go.Proofs.YtgcmfpcgmkkobaaGreatDoor
