/-
  evolve.Same: two schemas, alike but for names and places.
-/
import Derived.Test.YtgcmfpcgmkkobaaGreatDoorShort
import Derived.Deep.DeepCutAuto
import Derived.Carry
set_option linter.unusedVariables false
set_option maxHeartbeats 20000000
set_option maxRecDepth 100000
set_option linter.unusedSimpArgs false
namespace Go.Proofs.YtgcmfpcgmkkobaaGreatDoor
open Go.RowKit
theorem zeroNodeV (w : World) : (zeroValue 28).run Tryz.prog w = .ok (.agg #[.int .i64 0, .string ⟨#[]⟩, .int .i64 0, .int .i64 0, .slice none 0 0]) w := by kernel_rfl
theorem zeroIntV (w : World) : (zeroValue 3).run Tryz.prog w = .ok (.int .i64 0) w := by kernel_rfl
theorem look_some {w : World} {b n : Nat} {D : DV} {t e : TypeId} {z : Value} (ht : Tryz.prog.underlying t = some (.map 3 e)) (hz : (zeroValue e).run Tryz.prog w = .ok z w) (hown : OM w b n D) {i : Int} (hi : I64 i) {v : Value} (hat : ∀ zd, D.atKey (keyI i) zd = .held v) :
  (Instr.lookup t (.map (some b)) (.int .i64 i) true).run Tryz.prog w = .ok (.tuple #[v, .bool true]) w ∧ (Instr.lookup t (.map (some b)) (.int .i64 i) false).run Tryz.prog w = .ok v w := by
 obtain ⟨es, clock, hb, F, _, rfl⟩ := hown
 constructor
 ·rcases Go.Maps.fit_look true lawI ht hz hb F (keyOfI hi) with ⟨_, _, h2⟩ | ⟨e0, y, _, _, hrun, hRv, h2, _⟩
  ·have h3 := (hat .nil).symm.trans (h2 .nil)
   cases h3
  ·have h3 := (hat .nil).symm.trans (h2 .nil)
   obtain rfl : y = (.held e0.val, []) := (Option.some.inj hRv).symm
   rw [hrun, if_pos rfl, DataW.held.inj h3]
 ·rcases Go.Maps.fit_look false lawI ht hz hb F (keyOfI hi) with ⟨_, _, h2⟩ | ⟨e0, y, _, _, hrun, hRv, h2, _⟩
  ·have h3 := (hat .nil).symm.trans (h2 .nil)
   cases h3
  ·have h3 := (hat .nil).symm.trans (h2 .nil)
   obtain rfl : y = (.held e0.val, []) := (Option.some.inj hRv).symm
   rw [hrun, if_neg Bool.false_ne_true, DataW.held.inj h3]
theorem look_none {w : World} {b n : Nat} {D : DV} {t e : TypeId} {z : Value} (ht : Tryz.prog.underlying t = some (.map 3 e)) (hz : (zeroValue e).run Tryz.prog w = .ok z w) (hown : OM w b n D) {i : Int} (hi : I64 i) (hno : Go.Maps.has D (keyI i) = false) :
  (Instr.lookup t (.map (some b)) (.int .i64 i) true).run Tryz.prog w = .ok (.tuple #[z, .bool false]) w := by
 have hat := Go.Maps.atKey_of_not_has hno
 obtain ⟨es, clock, hb, F, _, rfl⟩ := hown
 rcases Go.Maps.fit_look true lawI ht hz hb F (keyOfI hi) with ⟨hrun, _, _⟩ | ⟨e0, y, _, _, _, hRv, h2, _⟩
 ·rw [hrun, if_pos rfl]
 ·have h3 := (hat .nil).symm.trans (h2 .nil)
  have h4 := (hat (.held .nilIface)).symm.trans (h2 (.held .nilIface))
  rw [← h3] at h4
  cases h4
theorem Inv.not_has {D1 D2 : DV} {K : List Kn} (h : Inv D1 D2 K) {i : Int} (hs : seekF K i = none) : Go.Maps.has D1 (keyI i) = false := by
 cases hh : Go.Maps.has D1 (keyI i) with
 | false => rfl
 | true =>
  obtain ⟨x, hx, hxi⟩ := h.only i hh
  exact absurd hxi (seek_none hs x hx)
theorem rng_same {a b : Lit} (h : a.sameKey b = true) : a = b := Classical.byContradiction fun e => by
 rw [Go.Maps.sameKey_ne e] at h
 cases h
def SaRel (K1 K2 : List Kn) (w : World) (b1 b2 b3 b4 r n1 n2 : Nat) (D1 E1 D2 E2 : DV) (wr : World) : Prop :=
 ∃ (left : Lit → Bool) (cnt : Nat), wr.ranges Tryz.prog 3 RV b1 r n1 D1 left cnt ∧ OM wr b2 n1 E1 ∧ OM wr b3 n2 D2 ∧ OM wr b4 n2 E2 ∧ Chg NoB w wr ∧ ∀ x ∈ K1, left (keyI x.1.id) = false → oneF K2 x = true
mutual
theorem kidsN_ok : ∀ (a : Int) (n : Nd), n.ok → ∀ x ∈ knN a n, x.1.ok
 | a, .mk i n r k s, h, x, hx => by
  simp only [knN] at hx
  rcases List.mem_cons.1 hx with e | h2
  ·rw [e]; exact h
  ·exact kidsL_ok i s h.2.2.2.2.2 x h2
theorem kidsL_ok : ∀ (a : Int) (l : List Nd), Nd.oks l → ∀ x ∈ knL a l, x.1.ok
 | a, [], h, x, hx => by simp [knL] at hx
 | a, n :: ns, h, x, hx => by
  simp only [knL] at hx
  rcases List.mem_append.1 hx with h1 | h1
  ·exact kidsN_ok a n h.1 x h1
  ·exact kidsL_ok a ns h.2 x h1
end
def MB (w : World) (b : Nat) : Prop := w.heap[b]? = some (.map #[] 0)
theorem MB.newAt {w : World} {b : Nat} (h : b = w.heap.size) : MB (w.alloc (.map #[] 0)) b := by
 subst h
 exact heap_alloc_new w _
theorem MB.alloc {w : World} {b : Nat} (h : MB w b) (o : Obj) : MB (w.alloc o) b := (Below.heap_alloc w o b (lt_of_block h)).trans h
theorem MB.om {w : World} {b : Nat} (h : MB w b) : OM w b 0 (.map []) := by
 have h0 := World.ownsMap_made w Tryz.prog 3 RV
 obtain ⟨es, clock, h1, F, h2, h3⟩ := h0
 have h4 : es = #[] ∧ clock = 0 := by
  have h5 := heap_alloc_new w (.map #[] 0)
  rw [h5] at h1
  have h6 := Option.some.inj h1
  injection h6 with h7 h8
  exact ⟨h7.symm, h8.symm⟩
 obtain ⟨rfl, rfl⟩ := h4
 exact ⟨#[], 0, h, F, h2, h3⟩
theorem same_any (a b : Nd) (w : World) (S : Nat → Prop) (ca cb : List Value) (ha : Reads w S a.dt ca) (hb : Reads w S b.dt cb) (hoka : a.ok) (hokb : b.ok) (hSB : ∀ x, S x → x < w.heap.size) (hna : (idsL a.sub).Nodup) (hnb : (idsL b.sub).Nodup) (hwa : a.weigh ≤ 100000) (hwb : b.weigh ≤ 100000) :
  Calls Tryz.prog 15 #[.agg ca.toArray, .agg cb.toArray] w (RetV (.bool (sameF (knOf a) (knOf b))) w) := by
 have hmk := @run_makeMap Tryz.prog
 obtain ⟨i, nm, r, k, s⟩ := a
 obtain ⟨i', nm', r', k', s'⟩ := b
 have ha' := ha
 have hb' := hb
 obtain ⟨sv, rfl, hs⟩ := reads_nd.1 ha'
 obtain ⟨sa, cap, rfl, _, _, _⟩ := reads_subs hs
 obtain ⟨sv', rfl, hs'⟩ := reads_nd.1 hb'
 obtain ⟨sa', cap', rfl, _, _, _⟩ := reads_subs hs'
 go_enter Tryz.func15, Tryz.ntmps15
 go_wp2_with fail
 generalize hw1 : World.alloc _ _ = w1
 have hc1 : Chg NoB w w1 := by
  rw [← hw1]
  repeat (first | exact Chg.refl _ _ | apply Chg.alloc | apply Chg.drew)
 have hA1 : Blk w1 (w.heap.size) (ndCells i nm r k (.slice sa s.length cap)) 28 := by
  rw [← hw1]
  repeat (first | exact Blk.newAt (by first | rfl | (simp; done) | (simp; omega)) | apply Blk.alloc | apply Blk.drew)
 have hB1 : Blk w1 (w.heap.size + 1) (ndCells i' nm' r' k' (.slice sa' s'.length cap')) 28 := by
  rw [← hw1]
  repeat (first | exact Blk.newAt (by first | rfl | (simp; done) | (simp; omega)) | apply Blk.alloc | apply Blk.drew)
 have hm : MB w1 (w.heap.size + 1 + 1) ∧ MB w1 (w.heap.size + 1 + 1 + 1) ∧ MB w1 (w.heap.size + 1 + 1 + 1 + 1) ∧ MB w1 (w.heap.size + 1 + 1 + 1 + 1 + 1) := by
  rw [← hw1]
  refine ⟨?_, ?_, ?_, ?_⟩ <;> (repeat (first | exact MB.newAt (by first | rfl | (simp; done) | (simp; omega)) | apply MB.alloc))
 clear hw1
 obtain ⟨m1, m2, m3, m4⟩ := hm
 have o1 := m1.om
 have o2 := m2.om
 have o3 := m3.om
 have o4 := m4.om
 clear m1 m2 m3 m4
 have hz1 : w.heap.size + 1 < w1.heap.size := hB1.lt
 refine (known_any (w.heap.size + 1 + 1) (w.heap.size + 1 + 1 + 1 + 1) (by omega) _ (.mk i nm r k s) w1 S _ 0 _ _ [] (Nat.le_refl _) (ha.chg0 hc1) hoka (fun x hx e => by have := hSB x hx; rcases e with e | e <;> omega) o1 o3 Inv.start (by simpa using hna) (by omega)).mono ?_
 rintro en w2 ⟨rfl, D1, E1, p1, p3, hinv1, hc2⟩
 have p2 := o2.keep hc2 (fun e => by rcases e with e | e <;> omega)
 have p4 := o4.keep hc2 (fun e => by rcases e with e | e <;> omega)
 have hB2 := hB1.keep hc2 (fun e => by rcases e with e | e <;> omega)
 have hc02 : Chg NoB w w2 := hc1.trans' hc2 (fun x e => by rcases e with e | e <;> omega)
 have x0 : w2.cell? ⟨w.heap.size + 1, 0, none⟩ = some (.int .i64 (i')) := hB2.cell 0
 have x1 : w2.cell? ⟨w.heap.size + 1, 1, none⟩ = some (.string nm') := hB2.cell 1
 have x2 : w2.cell? ⟨w.heap.size + 1, 2, none⟩ = some (.int .i64 (r')) := hB2.cell 2
 have x3 : w2.cell? ⟨w.heap.size + 1, 3, none⟩ = some (.int .i64 (k')) := hB2.cell 3
 have x4 : w2.cell? ⟨w.heap.size + 1, 4, none⟩ = some (.slice sa' s'.length cap') := hB2.cell 4
 have hz2 := hB2.lt
 clear o1 o2 o3 o4 hc2 hA1 hB1
 simp only [List.nil_append, Nat.zero_add] at p1 p3 hinv1
 go_wp2_with fail
 refine (known_any (w.heap.size + 1 + 1 + 1) (w.heap.size + 1 + 1 + 1 + 1 + 1) (by omega) _ (.mk i' nm' r' k' s') w2 S _ 0 _ _ [] (Nat.le_refl _) (hb.chg0 hc02) hokb (fun x hx e => by have := hSB x hx; rcases e with e | e <;> omega) p2 p4 Inv.start (by simpa using hnb) (by omega)).mono ?_
 rintro en w3 ⟨rfl, D2, E2, q2, q4, hinv2, hc3⟩
 have q1 := p1.keep hc3 (fun e => by rcases e with e | e <;> omega)
 have q3 := p3.keep hc3 (fun e => by rcases e with e | e <;> omega)
 have hc03 : Chg NoB w w3 := hc02.trans' hc3 (fun x e => by rcases e with e | e <;> omega)
 simp only [List.nil_append, Nat.zero_add] at q2 q4 hinv2
 clear p1 p2 p3 p4 hc3 x0 x1 x2 x3 x4 hB2 hc02 hz2 hz1 hc1
 have hk1 : ∀ x ∈ knOf (.mk i nm r k s), x.1.ok := kidsL_ok i s hoka.2.2.2.2.2
 have hn2 : ((knOf (.mk i' nm' r' k' s')).map fun x => x.1.id).Nodup := by unfold knOf; rw [knL_ids]; exact hnb
 have hn1 : ((knOf (.mk i nm r k s)).map fun x => x.1.id).Nodup := by unfold knOf; rw [knL_ids]; exact hna
 rw [show knL (Nd.mk i nm r k s).id (Nd.mk i nm r k s).sub = knOf (.mk i nm r k s) from rfl] at hinv1
 rw [show knL (Nd.mk i' nm' r' k' s').id (Nd.mk i' nm' r' k' s').sub = knOf (.mk i' nm' r' k' s') from rfl] at hinv2
 have hfin := sameF_eq (A := knOf (.mk i nm r k s)) hn2
 generalize knOf (.mk i nm r k s) = K1 at *
 generalize knOf (.mk i' nm' r' k' s') = K2 at *
 generalize Nd.weighs (Nd.mk i nm r k s).sub = m1 at *
 generalize Nd.weighs (Nd.mk i' nm' r' k' s').sub = m2 at *
 have Hfin := Lib.hid hfin
 clear hfin
 have Hinv1 := Lib.hid hinv1
 have Hinv2 := Lib.hid hinv2
 have Hk1 := Lib.hid hk1
 have Hn1 := Lib.hid hn1
 clear hinv1 hinv2 hk1 hn1 hn2 hs hs' ha hb ha' hb' hmk
 have hl2 := q2.lt
 have hl4 := q4.lt
 go_wp2_with (first
  | (at_range; refine wpList_range_own _ rfl _ 74 rfl 3 28 lawI Tryz.underlying74 RV (w.heap.size + 1 + 1) m1 D1 rfl q1 ?_; intro w4 hrg4 hg4 hs4)
  | go_in)
 go_frame
 have hc34 : Chg NoB w3 w4 := (Chg.refl NoB w3).grown hg4 (fun x e => by cases e)
 have hrN : ∀ x, x < w3.heap.size → ¬ OneB w3.heap.size x := fun x hx e => by have e : x = w3.heap.size := e; omega
 go_loopw [9] (fun _ wr => SaRel K1 K2 w (w.heap.size + 1 + 1) (w.heap.size + 1 + 1 + 1 + 1) (w.heap.size + 1 + 1 + 1) (w.heap.size + 1 + 1 + 1 + 1 + 1) w3.heap.size m1 m2 D1 E1 D2 E2 wr) (fun _ wr => wr.rangeLeft (w.heap.size + 1 + 1) w3.heap.size)
 case atStart =>
  refine ⟨_, _, hrg4, q3.keep hc34 nbE, q2.keep hc34 nbE, q4.keep hc34 nbE, hc03.tr hc34, fun x hx hno => ?_⟩
  obtain ⟨_, _, _, t1, _⟩ := Hinv1.out.tell x hx
  rw [Go.Maps.has_true_of_atKey t1] at hno
  cases hno
 case round =>
  obtain ⟨left, cnt, hrg, r2, r3, r4, hcr, hdone⟩ := hrel
  have Hdone := Lib.hid hdone
  clear hdone
  go_wp2_with (first
   | (at_next; refine wpList_next_ranges _ rfl _ rfl 3 lawI RV (Value.int .i64) (fun v : Value => v) (fun key kl hk => by obtain ⟨x, rfl, _⟩ := Go.Maps.keyOf_int_inv Tryz.underlying3 hk; exact ⟨x, rfl⟩) (fun v y hv => ⟨v, rfl⟩) (w.heap.size + 1 + 1) w3.heap.size m1 D1 left cnt rfl hrg ?_ ?_)
   | go_in)
  ·intro _ hl0
   have hall : K1.all (oneF K2) = true := List.all_eq_true.2 fun x hx => Hdone.out x hx (hl0 _)
   have Hall := Lib.hid hall
   clear hall
   go_wp2_with fail
   go_ret
   rw [Hfin.out, Hall.out]
   exact ⟨rfl, hcr⟩
  ·intro xi c kl yd yp w5 cnt5 hkey hlk hRy hat hrg5 hlt5 hg5 hs5 hen
   obtain ⟨xi', ex, rfl, hwx⟩ := Go.Maps.keyOf_int_inv Tryz.underlying3 hkey
   obtain rfl : xi' = xi := by injection ex with _ e; exact e.symm
   obtain rfl : yd = .held c := by
    have h9 := congrArg (fun o => o.map Prod.fst) hRy
    exact (Option.some.inj h9).symm
   have hhas : Go.Maps.has D1 (keyI xi') = true := Go.Maps.has_true_of_atKey hat
   obtain ⟨x, hxK, rfl⟩ := Hinv1.out.only xi' hhas
   obtain ⟨sq, lq, cq, t1, t2⟩ := Hinv1.out.tell x hxK
   obtain rfl : c = ndVal x.1 (.slice sq lq cq) := DataW.held.inj ((hat .nil).symm.trans (t1 .nil))
   have hxok := Hk1.out x hxK
   have hx64 : I64 x.1.id := by
    obtain ⟨⟨i1, n1, r1, k1, s1⟩, a1⟩ := x
    exact hxok.1
   have hcr5 : Chg (OneB w3.heap.size) wr w5 := (Chg.refl (OneB w3.heap.size) wr).grown hg5 (fun y e => .inl (Option.some.inj e).symm)
   have hc05 : Chg NoB w w5 := hcr.trans' hcr5 (fun y e => by have e : y = w3.heap.size := e; have := hc03.size; omega)
   have s1 : OM w5 (w.heap.size + 1 + 1) m1 D1 := World.ranges.owns hrg5
   have s2 := r2.keep hcr5 (fun e => by have e : _ = w3.heap.size := e; omega)
   have s3 := r3.keep hcr5 (fun e => by have e : _ = w3.heap.size := e; omega)
   have s4 := r4.keep hcr5 (fun e => by have e : _ = w3.heap.size := e; omega)
   unfold ndVal at hen ⊢
   have HxK := Lib.hid hxK
   have Ht1 := Lib.hid t1
   have Ht2 := Lib.hid t2
   have hleft0 : wr.rangeLeft (w.heap.size + 1 + 1) w3.heap.size = cnt := World.ranges.left_eq hrg
   have hstep : oneF K2 x = true → ∀ z ∈ K1, (left (keyI z.1.id) && !(keyI z.1.id).sameKey (keyI x.1.id)) = false → oneF K2 z = true := fun ho z hz hl => by
    cases hlz : left (keyI z.1.id) with
    | false => exact Hdone.out z hz hlz
    | true =>
     rw [hlz] at hl
     have hsk : (keyI z.1.id).sameKey (keyI x.1.id) = true := by simpa using hl
     have : z = x := eq_of_kid Hn1.out hz hxK (keyI_inj (rng_same hsk))
     rw [this]
     exact ho
   have Hstep := Lib.hid hstep
   clear hstep hxK t1 t2 hat hkey hRy hhas hxok r2 r3 r4 hcr hcr5 hg5 hrg ex
   obtain ⟨i1, hi1⟩ : ∃ z, z = x.1.id := ⟨_, rfl⟩
   obtain ⟨n1, hn1⟩ : ∃ z, z = x.1.name := ⟨_, rfl⟩
   obtain ⟨rr1, hr1⟩ : ∃ z, z = x.1.rep := ⟨_, rfl⟩
   obtain ⟨k1, hk1⟩ : ∃ z, z = x.1.kind := ⟨_, rfl⟩
   rw [← hi1] at hx64 hen hrg5 hlk ⊢
   rw [← hn1, ← hr1, ← hk1] at hen ⊢
   have Hi1 := Lib.hid hi1
   have Hr1 := Lib.hid hr1
   have Hk1' := Lib.hid hk1
   clear hi1 hn1 hr1 hk1
   go_upto_region 8 with fail
   generalize hw6 : World.alloc _ _ = w6
   have hc56 : Chg NoB w5 w6 := by
    rw [← hw6]
    repeat (first | exact Chg.refl _ _ | apply Chg.alloc | apply Chg.drew)
   have hx6 : Blk w6 wr.heap.size [.int .i64 i1, .string n1, .int .i64 rr1, .int .i64 k1, .slice sq lq cq] 28 := by rw [← hw6]; exact Blk.newAt hs5.symm
   have hrg6 := World.ranges.alloc hrg5 (.cells #[.int .i64 i1, .string n1, .int .i64 rr1, .int .i64 k1, .slice sq lq cq] 28)
   rw [hw6] at hrg6
   clear hw6
   have s1 := s1.keep hc56 nbE
   have s2 := s2.keep hc56 nbE
   have s3 := s3.keep hc56 nbE
   have s4 := s4.keep hc56 nbE
   have hc06 := hc05.tr hc56
   have hsx := hx6.lt
   cases hsk : seekF K2 i1 with
   | none =>
    have hl := look_none (t := 74) Tryz.underlying74 (zeroNodeV w6) s3 hx64 (Inv.not_has Hinv2.out hsk)
    have hone : oneF K2 x = true := by unfold oneF; rw [← Hi1.out, hsk]
    have Hone := Lib.hid hone
    clear hsk hone
    go_wp2_with fail
    have hrg7 := World.ranges.alloc hrg6 (.cells #[.int .i64 0, .string ⟨#[]⟩, .int .i64 0, .int .i64 0, .slice none 0 0] 28)
    refine ⟨⟨_, cnt5, hrg7, s2.keep ((Chg.refl NoB w6).alloc _) nbE, s3.keep ((Chg.refl NoB w6).alloc _) nbE, s4.keep ((Chg.refl NoB w6).alloc _) nbE, hc06.alloc _, fun z hz hl => Hstep.out Hone.out z hz (by rw [← Hi1.out]; exact hl)⟩, ?_⟩
    rw [World.ranges.left_eq hrg7, hleft0]
    exact hlt5
   | some y =>
    obtain ⟨hyK, hyi⟩ := seek_some hsk
    obtain ⟨sy, ly, cy, u1, u2⟩ := Hinv2.out.tell y hyK
    rw [hyi] at u1 u2
    have hone : oneF K2 x = pairB x y := by unfold oneF; rw [← Hi1.out, hsk]
    have Hone := Lib.hid hone
    have hl := (look_some (t := 74) Tryz.underlying74 (zeroNodeV w6) s3 hx64 u1).1
    unfold ndVal at hl
    rw [hyi] at hl
    obtain ⟨ny, hny⟩ : ∃ z, z = y.1.name := ⟨_, rfl⟩
    obtain ⟨ry, hry⟩ : ∃ z, z = y.1.rep := ⟨_, rfl⟩
    obtain ⟨ky, hky⟩ : ∃ z, z = y.1.kind := ⟨_, rfl⟩
    obtain ⟨ax, hax⟩ : ∃ z, z = x.2 := ⟨_, rfl⟩
    obtain ⟨ay, hay⟩ : ∃ z, z = y.2 := ⟨_, rfl⟩
    rw [← hny, ← hry, ← hky] at hl
    have hpb : pairB x y = ((decide (k1 = ky) || (decide (k1 = 2) && decide (ky = 3))) && (decide (rr1 = ry) || (decide (rr1 = 1) && decide (ry = 2))) && decide (ax = ay)) := by
     rw [Hk1'.out, Hr1.out, hky, hry, hax, hay]
     rfl
    have hax1 : ∀ zd, E1.atKey (keyI i1) zd = .held (.int .i64 ax) := fun zd => by rw [Hi1.out, hax]; exact Ht2.out zd
    have hay1 : ∀ zd, E2.atKey (keyI i1) zd = .held (.int .i64 ay) := fun zd => by rw [hay]; exact u2 zd
    have Hpb0 := Lib.hid hpb
    have Hax := Lib.hid hax1
    have Hay := Lib.hid hay1
    clear hsk hone hpb hax1 hay1 hax hay hny hry hky u1 u2 hyi hyK
    go_upto_region 10 with fail
    generalize hw7 : World.alloc _ _ = w7
    have hc67 : Chg NoB w6 w7 := by
     rw [← hw7]
     repeat (first | exact Chg.refl _ _ | apply Chg.alloc | apply Chg.drew)
    have hy7 : Blk w7 w6.heap.size [.int .i64 i1, .string ny, .int .i64 ry, .int .i64 ky, .slice sy ly cy] 28 := by rw [← hw7]; exact Blk.newAt rfl
    have hrg7 := World.ranges.alloc hrg6 (.cells #[.int .i64 i1, .string ny, .int .i64 ry, .int .i64 ky, .slice sy ly cy] 28)
    rw [hw7] at hrg7
    clear hw7 hl hen
    have hx7 := hx6.keep hc67 nbE
    have hc07 := hc06.tr hc67
    have s2 := s2.keep hc67 nbE
    have s3 := s3.keep hc67 nbE
    have s4 := s4.keep hc67 nbE
    have x0 : w7.cell? ⟨wr.heap.size, 0, none⟩ = some (.int .i64 (i1)) := hx7.cell 0
    have x1 : w7.cell? ⟨wr.heap.size, 1, none⟩ = some (.string n1) := hx7.cell 1
    have x2 : w7.cell? ⟨wr.heap.size, 2, none⟩ = some (.int .i64 (rr1)) := hx7.cell 2
    have x3 : w7.cell? ⟨wr.heap.size, 3, none⟩ = some (.int .i64 (k1)) := hx7.cell 3
    have x4 : w7.cell? ⟨wr.heap.size, 4, none⟩ = some (.slice sq lq cq) := hx7.cell 4
    have y0 : w7.cell? ⟨w6.heap.size, 0, none⟩ = some (.int .i64 (i1)) := hy7.cell 0
    have y1 : w7.cell? ⟨w6.heap.size, 1, none⟩ = some (.string ny) := hy7.cell 1
    have y2 : w7.cell? ⟨w6.heap.size, 2, none⟩ = some (.int .i64 (ry)) := hy7.cell 2
    have y3 : w7.cell? ⟨w6.heap.size, 3, none⟩ = some (.int .i64 (ky)) := hy7.cell 3
    have y4 : w7.cell? ⟨w6.heap.size, 4, none⟩ = some (.slice sy ly cy) := hy7.cell 4
    have lx7 := hx7.lt
    have ly7 := hy7.lt
    clear hx6 hrg6 hrg5
    go_cut [13] (fun v13 wx => v13 = .bool (decide (k1 = ky) || (decide (k1 = 2) && decide (ky = 3))) ∧ wx = w7)
    case first =>
     by_cases h1 : k1 = ky
     ·have H1 := Lib.hid h1
      subst h1
      go_wp2_with fail
      go_meet
      exact ⟨by simp, rfl⟩
     ·by_cases h2 : k1 = 2
      ·subst h2
       have h1' : ((2 : Int) == ky) = false := by simpa using h1
       have H1 := Lib.hid h1
       clear h1
       go_wp2_with fail
       go_meet
       exact ⟨congrArg Value.bool (by simp [H1.out]; rfl), rfl⟩
      ·have h1' : (k1 == ky) = false := by simpa using h1
       have h2' : (k1 == 2) = false := by simpa using h2
       have H1 := Lib.hid h1
       have H2 := Lib.hid h2
       clear h1 h2
       go_wp2_with fail
       go_meet
       exact ⟨congrArg Value.bool (by simp [H1.out, H2.out]), rfl⟩
    case rest =>
     obtain ⟨rfl, hwc⟩ := hcut
     obtain rfl := hwc
     generalize (decide (k1 = ky) || (decide (k1 = 2) && decide (ky = 3))) = kB at *
     go_upto_region 11 with fail
     go_cut [14] (fun v14 wx => v14 = .bool (decide (rr1 = ry) || (decide (rr1 = 1) && decide (ry = 2))) ∧ wx = wc)
     case first =>
      by_cases h1 : rr1 = ry
      ·have H1 := Lib.hid h1
       subst h1
       go_wp2_with fail
       go_meet
       exact ⟨by simp, rfl⟩
      ·by_cases h2 : rr1 = 1
       ·subst h2
        have h1' : ((1 : Int) == ry) = false := by simpa using h1
        have H1 := Lib.hid h1
        clear h1
        go_wp2_with fail
        go_meet
        exact ⟨congrArg Value.bool (by simp [H1.out]; rfl), rfl⟩
       ·have h1' : (rr1 == ry) = false := by simpa using h1
        have h2' : (rr1 == 1) = false := by simpa using h2
        have H1 := Lib.hid h1
        have H2 := Lib.hid h2
        clear h1 h2
        go_wp2_with fail
        go_meet
        exact ⟨congrArg Value.bool (by simp [H1.out, H2.out]), rfl⟩
     case rest =>
      obtain ⟨rfl, hwc⟩ := hcut
      obtain rfl := hwc
      generalize (decide (rr1 = ry) || (decide (rr1 = 1) && decide (ry = 2))) = rB at *
      have hp := (look_some (t := 75) Tryz.underlying75 (zeroIntV _) s2 hx64 Hax.out).2
      have hq := (look_some (t := 75) Tryz.underlying75 (zeroIntV _) s4 hx64 Hay.out).2
      clear x0 x1 x2 x3 x4 y0 y1 y2 y3 y4
      cases kB with
      | false =>
       have Hpb := Lib.hid (show pairB x y = false from by rw [Hpb0.out]; simp)
       have hbad : K1.all (oneF K2) = false := by
        rw [List.all_eq_false]
        exact ⟨x, HxK.out, by rw [Hone.out, Hpb.out]; simp⟩
       have Hbad := Lib.hid hbad
       clear hbad
       go_wp2_with fail
       go_ret
       rw [Hfin.out, Hbad.out]
       exact ⟨rfl, hc07⟩
      | true =>
       cases rB with
       | false =>
        have Hpb := Lib.hid (show pairB x y = false from by rw [Hpb0.out]; simp)
        have hbad : K1.all (oneF K2) = false := by
         rw [List.all_eq_false]
         exact ⟨x, HxK.out, by rw [Hone.out, Hpb.out]; simp⟩
        have Hbad := Lib.hid hbad
        clear hbad
        go_wp2_with fail
        go_ret
        rw [Hfin.out, Hbad.out]
        exact ⟨rfl, hc07⟩
       | true =>
        by_cases he : ax = ay
        ·subst he
         have Hpb := Lib.hid (show pairB x y = true from by rw [Hpb0.out]; simp)
         go_wp2_with fail
         refine ⟨⟨_, cnt5, hrg7, s2, s3, s4, hc07, fun z hz hl => Hstep.out (by rw [Hone.out]; exact Hpb.out) z hz (by rw [← Hi1.out]; exact hl)⟩, ?_⟩
         rw [World.ranges.left_eq hrg7, hleft0]
         exact hlt5
        ·have Hpb := Lib.hid (show pairB x y = false from by rw [Hpb0.out]; simp [he])
         have he' : (ax == ay) = false := by simpa using he
         clear he
         have hbad : K1.all (oneF K2) = false := by
          rw [List.all_eq_false]
          exact ⟨x, HxK.out, by rw [Hone.out, Hpb.out]; simp⟩
         have Hbad := Lib.hid hbad
         clear hbad
         go_wp2_with fail
         go_ret
         rw [Hfin.out, Hbad.out]
         exact ⟨rfl, hc07⟩
end Go.Proofs.YtgcmfpcgmkkobaaGreatDoor
