/-
  shredcolref2.SchemaError: the walk.
-/
import Derived.Test.YtkchmgjmecojcaaGreatDoorRefName
set_option linter.unusedVariables false
set_option maxHeartbeats 20000000
set_option maxRecDepth 100000
set_option linter.unusedSimpArgs false
namespace Go.Proofs.YtkchmgjmecojcaaGreatDoor
open Go.RowKit
def RetErrN (nd : Nd) (L : List Pl) (w : World) (en : Ending) (w' : World) : Prop := ∃ r, en = .returned (.int .i64 r) ∧ ErrSpec nd L r ∧ Chg NoB w w'
def AllRel (L : List Pl) (F : Nat → Pl → Prop) (w : World) (vi : Value) (wr : World) : Prop := ∃ j : Nat, 1 ≤ j ∧ vi = .int .i64 (j : Nat) ∧ Chg NoB w wr ∧ ∀ i p, 1 ≤ i → i < j → L[i]? = some p → F i p
def NameIn (L : List Pl) (j : Nat) (p : Pl) (w : World) (vo vk : Value) (wr : World) : Prop := ∃ (kk : Nat) (ok : Bool), 1 ≤ kk ∧ kk ≤ j ∧ vk = .int .i64 (kk : Nat) ∧ vo = .bool ok ∧ Chg NoB w wr ∧
 (ok = true ↔ isNameB p.n.name = true ∧ ∀ k q, 1 ≤ k → k < kk → L[k]? = some q → ¬ (q.around = p.around ∧ q.n.name = p.n.name))
def IdIn (L : List Pl) (j : Nat) (p : Pl) (w : World) (vo vk : Value) (wr : World) : Prop := ∃ (kk : Nat) (ok : Bool), 1 ≤ kk ∧ kk ≤ j ∧ vk = .int .i64 (kk : Nat) ∧ vo = .bool ok ∧ Chg NoB w wr ∧
 (ok = true ↔ (1 ≤ p.n.id ∧ p.n.id ≤ 1000) ∧ ∀ k q, 1 ≤ k → k < kk → L[k]? = some q → q.n.id ≠ p.n.id)
theorem idIn_step {L : List Pl} {p q : Pl} {kk : Nat} {ok : Bool} {A : Prop} (h : ok = true ↔ A ∧ ∀ k q, 1 ≤ k → k < kk → L[k]? = some q → q.n.id ≠ p.n.id) (hq : L[kk]? = some q) (hne : q.n.id ≠ p.n.id) :
  ok = true ↔ A ∧ ∀ k q, 1 ≤ k → k < kk + 1 → L[k]? = some q → q.n.id ≠ p.n.id := by
 rw [h]
 constructor
 ·rintro ⟨h1, h2⟩
  refine ⟨h1, fun k q' h3 h4 h5 => ?_⟩
  by_cases h6 : k < kk
  ·exact h2 k q' h3 h6 h5
  ·obtain rfl : k = kk := by omega
   rw [hq] at h5
   obtain rfl := Option.some.inj h5
   exact hne
 ·rintro ⟨h1, h2⟩
  exact ⟨h1, fun k q' h3 h4 h5 => h2 k q' h3 (by omega) h5⟩
theorem idIn_false {L : List Pl} {p : Pl} {kk : Nat} {A : Prop} (h : false = true ↔ A ∧ ∀ k q, 1 ≤ k → k < kk → L[k]? = some q → q.n.id ≠ p.n.id) :
  false = true ↔ A ∧ ∀ k q, 1 ≤ k → k < kk + 1 → L[k]? = some q → q.n.id ≠ p.n.id :=
 ⟨fun e => (by cases e), fun ⟨h1, h2⟩ => h.2 ⟨h1, fun k q h3 h4 h5 => h2 k q h3 (by omega) h5⟩⟩
theorem ne_lists {a b : ByteArray} (h : ¬ a = b) : (a.toList == b.toList) = false := by
 rw [beq_eq_false_iff_ne]
 intro e
 apply h
 rw [Lib.toList_data, Lib.toList_data] at e
 obtain ⟨x⟩ := a
 obtain ⟨y⟩ := b
 have e2 : x = y := Array.toList_inj.1 e
 rw [e2]
theorem nameIn_step {L : List Pl} {p q : Pl} {kk : Nat} {ok : Bool} {A : Prop} (h : ok = true ↔ A ∧ ∀ k q, 1 ≤ k → k < kk → L[k]? = some q → ¬ (q.around = p.around ∧ q.n.name = p.n.name)) (hq : L[kk]? = some q) (hne : ¬ (q.around = p.around ∧ q.n.name = p.n.name)) :
  ok = true ↔ A ∧ ∀ k q, 1 ≤ k → k < kk + 1 → L[k]? = some q → ¬ (q.around = p.around ∧ q.n.name = p.n.name) := by
 rw [h]
 constructor
 ·rintro ⟨h1, h2⟩
  refine ⟨h1, fun k q' h3 h4 h5 => ?_⟩
  by_cases h6 : k < kk
  ·exact h2 k q' h3 h6 h5
  ·obtain rfl : k = kk := by omega
   rw [hq] at h5
   obtain rfl := Option.some.inj h5
   exact hne
 ·rintro ⟨h1, h2⟩
  exact ⟨h1, fun k q' h3 h4 h5 => h2 k q' h3 (by omega) h5⟩
def DeepRel (L : List Pl) (w : World) (vi : Value) (wr : World) : Prop := ∃ j : Nat, j ≤ L.length ∧ vi = .int .i64 (j : Nat) ∧ Chg NoB w wr ∧ ∀ p ∈ L.take j, p.deep ≤ 6
theorem schemaError_any (nd : Nd) (w : World) (S : Nat → Prop) (cs : List Value) (hr : Reads w S nd.dt cs) (hok : nd.ok) :
  Calls Tryz.prog 72 #[.agg cs.toArray] w (RetErrN nd (flatOf nd) w) := by
 have hr' := hr
 obtain ⟨i, nm, r, k, sb⟩ := nd
 obtain ⟨sv, rfl, hs⟩ := reads_nd.1 hr'
 obtain ⟨sa, cap, rfl, _, _, _⟩ := reads_subs hs
 go_enter Tryz.func72, Tryz.ntmps72
 go_wp2_with fail
 generalize hw1 : w.alloc _ = w1
 have hc1 : Chg NoB w w1 := by
  rw [← hw1]
  repeat (first | exact Chg.refl _ _ | apply Chg.alloc | apply Chg.drew)
 have hb1 : Blk w1 (w.heap.size) (ndCells i nm r k (.slice sa sb.length cap)) 33 := by
  rw [← hw1]
  repeat (first | exact Blk.newAt (by first | rfl | (simp; done) | (simp; omega)) | apply Blk.alloc | apply Blk.drew)
 clear hw1
 refine (Flat_any (.mk i nm r k sb) w1 S _ (hr.chg0 hc1) hok).mono ?_
 rintro en w2 ⟨ao, c2, rfl, hrl, hc2⟩
 have hb2 := hb1.keep hc2 nbE
 replace hc2 := hc1.tr hc2
 have hpok : ∀ p ∈ flatOf (.mk i nm r k sb), p.n.ok := flatN_ok (.mk i nm r k sb) [] 1 (-1) (fun p hp => by cases hp) hok
 rw [List.length_map] at hrl ⊢
 obtain ⟨-, hL1, hL2, hL3⟩ := pl_cells hrl
 clear hrl
 generalize flatOf (.mk i nm r k sb) = L at *
 have hL63 : L.length ≤ 9223372036854775807 := by unfold maxLen at hL2; omega
 have HL3 := Lib.hid hL3
 clear hL3
 have x0 : w2.cell? ⟨w.heap.size, 0, none⟩ = some (.int .i64 (i)) := hb2.cell 0
 have x1 : w2.cell? ⟨w.heap.size, 1, none⟩ = some (.string nm) := hb2.cell 1
 have x2 : w2.cell? ⟨w.heap.size, 2, none⟩ = some (.int .i64 (r)) := hb2.cell 2
 have x3 : w2.cell? ⟨w.heap.size, 3, none⟩ = some (.int .i64 (k)) := hb2.cell 3
 have x4 : w2.cell? ⟨w.heap.size, 4, none⟩ = some (.slice sa sb.length cap) := hb2.cell 4
 have lb2 := hb2.lt
 by_cases hm : 40 < L.length
 ·have hm' : (40 : Int) < (L.length : Int) := by omega
  go_wp2_with fail
  go_ret
  exact ⟨2, rfl, .many hm, hc2⟩
 have hm0 : L.length ≤ 40 := by omega
 have hm' : ¬ (40 : Int) < (L.length : Int) := by omega
 have Hm := Lib.hid hm0
 clear hm hm0
 go_wp2_with fail
 go_loopw [4] (fun vi wr => DeepRel L w2 vi wr) (fun vi _ => L.length - (intOf vi).toNat)
 case atStart => exact ⟨0, Nat.zero_le _, rfl, Chg.refl _ _, fun p hp => by cases hp⟩
 case round =>
  obtain ⟨j, hj, rfl, hcr, hdeep⟩ := hrel
  have Hdeep := Lib.hid hdeep
  clear hdeep
  by_cases hlt : j < L.length
  ·obtain ⟨b, off, rfl, hbw, hel⟩ := HL3.out (by omega)
   have hP := (hel j L[j] (by simp [hlt])).keep0 hbw hcr
   have htake : L.take (j + 1) = L.take j ++ [L[j]] := List.take_succ_eq_append_getElem hlt
   have hmem : L[j] ∈ L := List.getElem_mem hlt
   generalize L[j] = p at hP htake hmem
   have Htake := Lib.hid htake
   have Hmem := Lib.hid hmem
   clear hel htake hmem
   have e5 := hP.deep
   clear hP
   by_cases h6 : 6 < p.deep
   ·go_wp2_with fail
    go_ret
    exact ⟨2, rfl, .high Hm.out p Hmem.out h6, hc2.tr hcr⟩
   ·have h6' : p.deep ≤ 6 := by omega
    clear h6
    go_wp2_with fail
    refine ⟨⟨j + 1, hlt, by go_num, hcr, fun q hq => ?_⟩, by simp [intOf]; omega⟩
    rw [Htake.out] at hq
    rcases List.mem_append.1 hq with hq | hq
    ·exact Hdeep.out q hq
    ·simp only [List.mem_cons, List.not_mem_nil, or_false] at hq
     subst hq
     exact h6'
  ·have hjl : j = L.length := by omega
   subst hjl
   have hdeep := Hdeep.out
   rw [List.take_length] at hdeep
   have Hd := Lib.hid hdeep
   clear hdeep Hdeep
   have hb3 := hb2.keep hcr nbE
   have hc3 := hc2.tr hcr
   clear x0 x1 x2 x3 x4
   have x0 : wr.cell? ⟨w.heap.size, 0, none⟩ = some (.int .i64 (i)) := hb3.cell 0
   have x1 : wr.cell? ⟨w.heap.size, 1, none⟩ = some (.string nm) := hb3.cell 1
   have x2 : wr.cell? ⟨w.heap.size, 2, none⟩ = some (.int .i64 (r)) := hb3.cell 2
   have x3 : wr.cell? ⟨w.heap.size, 3, none⟩ = some (.int .i64 (k)) := hb3.cell 3
   have x4 : wr.cell? ⟨w.heap.size, 4, none⟩ = some (.slice sa sb.length cap) := hb3.cell 4
   have lb3 := hb3.lt
   have hsh : rootB (.mk i nm r k sb) = (decide (i = 0) && decide (nm = rootName) && decide (r = 1) && decide (k = 0) && decide ((sb.length : Int) ≠ 0)) := rfl
   by_cases hrt : rootB (.mk i nm r k sb) = true
   ·have Hrt := Lib.hid hrt
    rw [hsh] at hrt
    simp only [Bool.and_eq_true, decide_eq_true_eq] at hrt
    obtain ⟨⟨⟨⟨rfl, rfl⟩, rfl⟩, rfl⟩, hne⟩ := hrt
    have hne' : ((sb.length : Int) == 0) = false := by simpa using hne
    unfold rootName at *
    clear hsh
    obtain ⟨wA, rfl⟩ : ∃ x, x = wr := ⟨_, rfl⟩
    go_wp2_with fail
    clear x0 x1 x2 x3 x4
    go_loopw [5] (fun vi wr' => AllRel L FitOk wA vi wr') (fun vi _ => L.length - (intOf vi).toNat)
    case atStart => exact ⟨1, Nat.le_refl _, rfl, Chg.refl _ _, fun i p h1 h2 _ => by omega⟩
    case round =>
     obtain ⟨j, hj1, rfl, hcr2, hall⟩ := hrel
     have Hall := Lib.hid hall
     clear hall
     by_cases hlt : j < L.length
     ·obtain ⟨b, off, rfl, hbw, hel⟩ := HL3.out (by omega)
      have hP := (hel j L[j] (by simp [hlt])).keep0 hbw (hcr.tr hcr2)
      have hget : L[j]? = some L[j] := List.getElem?_eq_getElem hlt
      have hokj := hpok _ (List.getElem_mem hlt)
      generalize L[j] = p at hP hget hokj
      obtain ⟨⟨i1, n1, r1, k1, s1⟩, d1, a1⟩ := p
      have Hget := Lib.hid hget
      have hs63 : s1.length * 64 ≤ reach := hokj.2.2.2.2.1
      unfold reach at hs63
      clear hel hget hokj
      obtain ⟨sa1, cap1, e4⟩ := hP.sub
      have e0 := hP.id
      have e1 := hP.name
      have e2 := hP.rep
      have e3 := hP.kind
      simp only [Nd.id, Nd.name, Nd.rep, Nd.kind, Nd.sub] at e0 e1 e2 e3 e4
      clear hP
      have hcN : Chg NoB wr (wr.alloc (.cells #[.int .i64 i1, .string n1, .int .i64 r1, .int .i64 k1, .slice sa1 s1.length cap1] 33)) := (Chg.refl _ _).alloc _
      by_cases hr1 : r1 < 1
      ·go_wp2_with fail
       go_ret
       refine ⟨3, rfl, .fit Hm.out Hd.out Hrt.out (fun h => ?_), hc3.tr (hcr2.alloc _)⟩
       obtain ⟨h91, h92, h93, h94, h95⟩ : 1 ≤ r1 ∧ r1 ≤ 3 ∧ 0 ≤ (k1) ∧ (k1) ≤ 5 ∧ ((k1) = 0 ↔ s1.length ≠ 0) := h j _ hj1 Hget.out
       omega
      by_cases hr3 : 3 < r1
      ·go_wp2_with fail
       go_ret
       refine ⟨3, rfl, .fit Hm.out Hd.out Hrt.out (fun h => ?_), hc3.tr (hcr2.alloc _)⟩
       obtain ⟨h91, h92, h93, h94, h95⟩ : 1 ≤ r1 ∧ r1 ≤ 3 ∧ 0 ≤ (k1) ∧ (k1) ≤ 5 ∧ ((k1) = 0 ↔ s1.length ≠ 0) := h j _ hj1 Hget.out
       omega
      by_cases hk1 : k1 < 0
      ·go_wp2_with fail
       go_ret
       refine ⟨3, rfl, .fit Hm.out Hd.out Hrt.out (fun h => ?_), hc3.tr (hcr2.alloc _)⟩
       obtain ⟨h91, h92, h93, h94, h95⟩ : 1 ≤ r1 ∧ r1 ≤ 3 ∧ 0 ≤ (k1) ∧ (k1) ≤ 5 ∧ ((k1) = 0 ↔ s1.length ≠ 0) := h j _ hj1 Hget.out
       omega
      by_cases hk5 : 5 < k1
      ·go_wp2_with fail
       go_ret
       refine ⟨3, rfl, .fit Hm.out Hd.out Hrt.out (fun h => ?_), hc3.tr (hcr2.alloc _)⟩
       obtain ⟨h91, h92, h93, h94, h95⟩ : 1 ≤ r1 ∧ r1 ≤ 3 ∧ 0 ≤ (k1) ∧ (k1) ≤ 5 ∧ ((k1) = 0 ↔ s1.length ≠ 0) := h j _ hj1 Hget.out
       omega
      by_cases hk0 : k1 = 0
      ·subst hk0
       by_cases hs0 : s1.length = 0
       ·have hs0' : ¬ (0 : Int) < (s1.length : Int) := by omega
        go_wp2_with fail
        go_ret
        refine ⟨3, rfl, .fit Hm.out Hd.out Hrt.out (fun h => ?_), hc3.tr (hcr2.alloc _)⟩
        obtain ⟨h91, h92, h93, h94, h95⟩ : 1 ≤ r1 ∧ r1 ≤ 3 ∧ 0 ≤ ((0 : Int)) ∧ ((0 : Int)) ≤ 5 ∧ (((0 : Int)) = 0 ↔ s1.length ≠ 0) := h j _ hj1 Hget.out
        omega
       ·have hs0' : (0 : Int) < (s1.length : Int) := by omega
        have hs0n : 0 < s1.length := by omega
        go_wp2_with fail
        refine ⟨⟨j + 1, by omega, by go_num, hcr2.alloc _, fun i' p' h1 h2 h3 => ?_⟩, by simp [intOf]; omega⟩
        by_cases h4 : i' < j
        ·exact Hall.out i' p' h1 h4 h3
        ·obtain rfl : i' = j := by omega
         have h5 := Hget.out
         rw [h3] at h5
         obtain rfl := Option.some.inj h5
         show 1 ≤ r1 ∧ r1 ≤ 3 ∧ 0 ≤ ((0 : Int)) ∧ ((0 : Int)) ≤ 5 ∧ (((0 : Int)) = 0 ↔ s1.length ≠ 0)
         omega
      ·have hk0' : (k1 == 0) = false := by simpa using hk0
       by_cases hs0 : s1.length = 0
       ·have hs0' : ¬ (0 : Int) < (s1.length : Int) := by omega
        go_wp2_with fail
        refine ⟨⟨j + 1, by omega, by go_num, hcr2.alloc _, fun i' p' h1 h2 h3 => ?_⟩, by simp [intOf]; omega⟩
        by_cases h4 : i' < j
        ·exact Hall.out i' p' h1 h4 h3
        ·obtain rfl : i' = j := by omega
         have h5 := Hget.out
         rw [h3] at h5
         obtain rfl := Option.some.inj h5
         show 1 ≤ r1 ∧ r1 ≤ 3 ∧ 0 ≤ (k1) ∧ (k1) ≤ 5 ∧ ((k1) = 0 ↔ s1.length ≠ 0)
         omega
       ·have hs0' : (0 : Int) < (s1.length : Int) := by omega
        go_wp2_with fail
        go_ret
        refine ⟨3, rfl, .fit Hm.out Hd.out Hrt.out (fun h => ?_), hc3.tr (hcr2.alloc _)⟩
        obtain ⟨h91, h92, h93, h94, h95⟩ : 1 ≤ r1 ∧ r1 ≤ 3 ∧ 0 ≤ (k1) ∧ (k1) ≤ 5 ∧ ((k1) = 0 ↔ s1.length ≠ 0) := h j _ hj1 Hget.out
        omega
     ·have hfit : AllOk L FitOk := fun i' p' h1 h2 => Hall.out i' p' h1 (by have := (List.getElem?_eq_some_iff.1 h2).1; omega) h2
      have Hfit := Lib.hid hfit
      clear hfit Hall
      have hcB := hc3.tr hcr2
      obtain ⟨wB, rfl⟩ : ∃ x, x = wr := ⟨_, rfl⟩
      have hcLB := hcr.tr hcr2
      go_wp2_with fail
      go_loopw [7] (fun vi wr' => AllRel L (NameOk L) wB vi wr') (fun vi _ => L.length - (intOf vi).toNat)
      case atStart => exact ⟨1, Nat.le_refl _, rfl, Chg.refl _ _, fun i p h1 h2 _ => by omega⟩
      case round =>
       obtain ⟨j, hj1, rfl, hcr3, hall⟩ := hrel
       have Hall := Lib.hid hall
       clear hall
       by_cases hlt : j < L.length
       ·obtain ⟨b, off, rfl, hbw, hel⟩ := HL3.out (by omega)
        have hP := hel j L[j] (by simp [hlt])
        have hget : L[j]? = some L[j] := List.getElem?_eq_getElem hlt
        have hokj := hpok _ (List.getElem_mem hlt)
        generalize L[j] = p at hP hget hokj
        have Hel := Lib.hid hel
        have Hget := Lib.hid hget
        have hn63 : p.n.name.size ≤ 9223372036854775807 := by
         obtain ⟨⟨i1, n1, r1, k1, s1⟩, d1, a1⟩ := p
         have := hokj.2.1
         unfold reach at this
         simp only [Nd.name]
         omega
        clear hel hget hokj
        have e1 := (hP.keep0 hbw (hcLB.tr hcr3)).name
        have HP := Lib.hid hP
        clear hP
        generalize hpn : p.n.name = pn at e1 hn63
        have Hpn := Lib.hid hpn
        clear hpn
        obtain ⟨wC, rfl⟩ : ∃ x, x = wr := ⟨_, rfl⟩
        go_wp2_with fail
        refine (isName2_any pn wC hn63).mono ?_
        rintro en w5 ⟨rfl, rfl⟩
        go_wp2_with fail
        go_loopw [8, 9] (fun vo vk wr' => NameIn L j p w5 vo vk wr') (fun _ vk _ => j - (intOf vk).toNat)
        case atStart => exact ⟨1, isNameB pn, Nat.le_refl _, hj1, rfl, rfl, Chg.refl _ _, by rw [Hpn.out]; exact ⟨fun h => ⟨h, fun k q h1 h2 _ => by omega⟩, fun h => h.1⟩⟩
        case round =>
         obtain ⟨kk, okb, hk1, hkj, rfl, rfl, hcr4, hiff⟩ := hrel
         have Hiff := Lib.hid hiff
         clear hiff
         by_cases hkl : kk < j
         ·have hq0 := Hel.out kk L[kk] (by simp [show kk < L.length by omega])
          have hgetq : L[kk]? = some L[kk] := List.getElem?_eq_getElem (by omega)
          generalize L[kk] = q at hq0 hgetq
          have Hgetq := Lib.hid hgetq
          clear hgetq
          have hcQ := (hcLB.tr hcr3).tr hcr4
          have hq := hq0.keep0 hbw hcQ
          have hp := HP.out.keep0 hbw hcQ
          have qn := hq.name
          have qa := hq.around
          have pn' := hp.name
          have pa := hp.around
          rw [Hpn.out] at pn'
          clear hq0 hq hp
          have hkL : (kk : Int) < (L.length : Int) := by omega
          have hjL : (j : Int) < (L.length : Int) := by omega
          generalize haq : q.around = aq at qa
          generalize hap : p.around = ap at pa
          generalize hnq : q.n.name = nq at qn
          have Haq := Lib.hid haq
          have Hap := Lib.hid hap
          have Hnq := Lib.hid hnq
          clear haq hap hnq
          by_cases ha : aq = ap
          ·subst ha
           by_cases hn : nq = pn
           ·subst hn
            go_wp2_with fail
            refine wp_region_n (fun w' => w'.cell? ⟨b, off + kk * 7 + 6, none⟩ = some (.int .i64 aq) ∧ w'.cell? ⟨b, off + j * 7 + 6, none⟩ = some (.int .i64 aq) ∧ w'.cell? ⟨b, off + kk * 7 + 1, none⟩ = some (.string nq) ∧ w'.cell? ⟨b, off + j * 7 + 1, none⟩ = some (.string nq)) [] (by kernel_rfl) ?_ (fun hSh => ?_)
            ·exact ⟨qa, pa, qn, pn'⟩
            refine n_from 0 ?_
            intro htk
            iterate 10
             refine n_tB (v := ?_) htk rfl (Or.inl ⟨by rfl, ?_⟩) ?_
             rotate_left 1
             ·(intro w' hSw; (try dsimp only at hSw); go_simp; try with_reducible rfl)
             clear htk
             intro htk
             simp only [Nat.reduceAdd] at htk
             simp only [Act.put, qA, qB, qC, qD, qE, qF]
            clear htk
            refine n_tA (v := ?_) 10 rfl (Or.inl ⟨by rfl, ?_⟩) ?_
            rotate_left 1
            ·(intro w' hSw; (try dsimp only at hSw); go_simp; (try simp only [beq_self_eq_true]); try with_reducible rfl)
            simp only [Act.put, qA, qB, qC, qD, qE, qF]
            refine n_from 11 ?_
            intro htk
            iterate 13
             refine n_tB (v := ?_) htk rfl (Or.inl ⟨by rfl, ?_⟩) ?_
             rotate_left 1
             ·(intro w' hSw; (try dsimp only at hSw); go_simp; try with_reducible rfl)
             clear htk
             intro htk
             simp only [Nat.reduceAdd] at htk
             simp only [Act.put, qA, qB, qC, qD, qE, qF]
            clear htk
            refine n_tA (v := ?_) 24 rfl (Or.inl ⟨by rfl, ?_⟩) ?_
            rotate_left 1
            ·(intro w' hSw; (try dsimp only at hSw); go_simp; (try simp only [beq_self_eq_true]); try with_reducible rfl)
            simp only [Act.put, qA, qB, qC, qD, qE, qF]
            refine n_tA (v := ?_) 25 rfl (Or.inl ⟨by rfl, ?_⟩) ?_
            rotate_left 1
            ·(intro w' hSw; (try dsimp only at hSw); go_simp; try with_reducible rfl)
            simp only [Act.put, qA, qB, qC, qD, qE, qF]
            refine n_done (by kernel_rfl) ?_
            go_wp2_with fail
            refine ⟨⟨kk + 1, false, by omega, hkl, by go_num, rfl, hcr4.drew, ⟨fun h => (by cases h), fun h => ?_⟩⟩, by simp [intOf]; omega⟩
            exact absurd ⟨Haq.out.trans Hap.out.symm, Hnq.out.trans Hpn.out.symm⟩ (h.2 kk q hk1 (by omega) Hgetq.out)
           ·have eqN : (nq.toList == pn.toList) = false := ne_lists hn
            have Hn := Lib.hid hn
            clear hn
            go_wp2_with fail
            refine wp_region_n (fun w' => w'.cell? ⟨b, off + kk * 7 + 6, none⟩ = some (.int .i64 aq) ∧ w'.cell? ⟨b, off + j * 7 + 6, none⟩ = some (.int .i64 aq) ∧ w'.cell? ⟨b, off + kk * 7 + 1, none⟩ = some (.string nq) ∧ w'.cell? ⟨b, off + j * 7 + 1, none⟩ = some (.string pn)) [] (by kernel_rfl) ?_ (fun hSh => ?_)
            ·exact ⟨qa, pa, qn, pn'⟩
            refine n_from 0 ?_
            intro htk
            iterate 10
             refine n_tB (v := ?_) htk rfl (Or.inl ⟨by rfl, ?_⟩) ?_
             rotate_left 1
             ·(intro w' hSw; (try dsimp only at hSw); go_simp; try with_reducible rfl)
             clear htk
             intro htk
             simp only [Nat.reduceAdd] at htk
             simp only [Act.put, qA, qB, qC, qD, qE, qF]
            clear htk
            refine n_tA (v := ?_) 10 rfl (Or.inl ⟨by rfl, ?_⟩) ?_
            rotate_left 1
            ·(intro w' hSw; (try dsimp only at hSw); go_simp; (try simp only [beq_self_eq_true]); try with_reducible rfl)
            simp only [Act.put, qA, qB, qC, qD, qE, qF]
            refine n_from 11 ?_
            intro htk
            iterate 13
             refine n_tB (v := ?_) htk rfl (Or.inl ⟨by rfl, ?_⟩) ?_
             rotate_left 1
             ·(intro w' hSw; (try dsimp only at hSw); go_simp; try with_reducible rfl)
             clear htk
             intro htk
             simp only [Nat.reduceAdd] at htk
             simp only [Act.put, qA, qB, qC, qD, qE, qF]
            clear htk
            refine n_tA (v := ?_) 24 rfl (Or.inl ⟨by rfl, ?_⟩) ?_
            rotate_left 1
            ·(intro w' hSw; (try dsimp only at hSw); go_simp; (try simp only [eqN]); try with_reducible rfl)
            simp only [Act.put, qA, qB, qC, qD, qE, qF]
            refine n_tA (v := ?_) 25 rfl (Or.inl ⟨by rfl, ?_⟩) ?_
            rotate_left 1
            ·(intro w' hSw; (try dsimp only at hSw); go_simp; try with_reducible rfl)
            simp only [Act.put, qA, qB, qC, qD, qE, qF]
            refine n_done (by kernel_rfl) ?_
            go_wp2_with fail
            exact ⟨⟨kk + 1, okb, by omega, hkl, by go_num, rfl, hcr4.drew, nameIn_step Hiff.out Hgetq.out (fun h => Hn.out (Hnq.out.symm.trans (h.2.trans Hpn.out)))⟩, by simp [intOf]; omega⟩
          ·have eqA : (aq == ap) = false := by simpa using ha
           have Ha := Lib.hid ha
           clear ha
           go_wp2_with fail
           refine wp_region_n (fun w' => w'.cell? ⟨b, off + kk * 7 + 6, none⟩ = some (.int .i64 aq) ∧ w'.cell? ⟨b, off + j * 7 + 6, none⟩ = some (.int .i64 ap) ∧ w'.cell? ⟨b, off + kk * 7 + 1, none⟩ = some (.string nq) ∧ w'.cell? ⟨b, off + j * 7 + 1, none⟩ = some (.string pn)) [] (by kernel_rfl) ?_ (fun hSh => ?_)
           ·exact ⟨qa, pa, qn, pn'⟩
           refine n_from 0 ?_
           intro htk
           iterate 10
            refine n_tB (v := ?_) htk rfl (Or.inl ⟨by rfl, ?_⟩) ?_
            rotate_left 1
            ·(intro w' hSw; (try dsimp only at hSw); go_simp; try with_reducible rfl)
            clear htk
            intro htk
            simp only [Nat.reduceAdd] at htk
            simp only [Act.put, qA, qB, qC, qD, qE, qF]
           clear htk
           refine n_tA (v := ?_) 10 rfl (Or.inl ⟨by rfl, ?_⟩) ?_
           rotate_left 1
           ·(intro w' hSw; (try dsimp only at hSw); go_simp; (try simp only [eqA]); try with_reducible rfl)
           simp only [Act.put, qA, qB, qC, qD, qE, qF]
           refine n_tA (v := ?_) 11 rfl (Or.inl ⟨by rfl, ?_⟩) ?_
           rotate_left 1
           ·(intro w' hSw; (try dsimp only at hSw); go_simp; try with_reducible rfl)
           simp only [Act.put, qA, qB, qC, qD, qE, qF]
           refine n_from 12 ?_
           intro htk
           iterate 13
            refine n_tB (v := undef) htk rfl (Or.inr ⟨by rfl, rfl⟩) ?_
            clear htk
            intro htk
            simp only [Nat.reduceAdd] at htk
            simp only [Act.put, qA, qB, qC, qD, qE, qF]
           clear htk
           refine n_tA (v := ?_) 25 rfl (Or.inl ⟨by rfl, ?_⟩) ?_
           rotate_left 1
           ·(intro w' hSw; (try dsimp only at hSw); go_simp; try with_reducible rfl)
           simp only [Act.put, qA, qB, qC, qD, qE, qF]
           refine n_done (by kernel_rfl) ?_
           go_wp2_with fail
           exact ⟨⟨kk + 1, okb, by omega, hkl, by go_num, rfl, hcr4.drew, nameIn_step Hiff.out Hgetq.out (fun h => Ha.out (Haq.out.symm.trans (h.1.trans Hap.out)))⟩, by simp [intOf]; omega⟩
         ·obtain rfl : kk = j := by omega
          have hcC := hcr3.tr hcr4
          cases okb with
          | false =>
           have hbad : ¬ AllOk L (NameOk L) := fun h => by
            have h9 := Hiff.out.2 (h kk p hj1 Hget.out)
            cases h9
           have Hbad := Lib.hid hbad
           clear hbad
           go_wp2_with fail
           go_ret
           exact ⟨5, rfl, .name Hm.out Hd.out Hrt.out Hfit.out Hbad.out, hcB.tr hcC⟩
          | true =>
           have hgood : NameOk L kk p := Hiff.out.1 rfl
           have Hgood := Lib.hid hgood
           clear hgood
           go_wp2_with fail
           refine ⟨⟨kk + 1, by omega, by go_num, hcC, fun i' p' h1 h2 h3 => ?_⟩, by simp [intOf]; omega⟩
           by_cases h4 : i' < kk
           ·exact Hall.out i' p' h1 h4 h3
           ·obtain rfl : i' = kk := by omega
            have h5 := Hget.out
            rw [h3] at h5
            obtain rfl := Option.some.inj h5
            exact Hgood.out
       ·have hname : AllOk L (NameOk L) := fun i' p' h1 h2 => Hall.out i' p' h1 (by have := (List.getElem?_eq_some_iff.1 h2).1; omega) h2
        have Hname := Lib.hid hname
        clear hname Hall
        have hcD := hcB.tr hcr3
        have hcLD := hcLB.tr hcr3
        obtain ⟨wD, rfl⟩ : ∃ x, x = wr := ⟨_, rfl⟩
        go_wp2_with fail
        go_loopw [10] (fun vi wr' => AllRel L (IdOk L) wD vi wr') (fun vi _ => L.length - (intOf vi).toNat)
        case atStart => exact ⟨1, Nat.le_refl _, rfl, Chg.refl _ _, fun i p h1 h2 _ => by omega⟩
        case round =>
         obtain ⟨j, hj1, rfl, hcr5, hall⟩ := hrel
         have Hall := Lib.hid hall
         clear hall
         by_cases hlt : j < L.length
         ·obtain ⟨b, off, rfl, hbw, hel⟩ := HL3.out (by omega)
          have hP := hel j L[j] (by simp [hlt])
          have hget : L[j]? = some L[j] := List.getElem?_eq_getElem hlt
          generalize L[j] = p at hP hget
          have Hel := Lib.hid hel
          have Hget := Lib.hid hget
          clear hel hget
          have e0 := (hP.keep0 hbw (hcLD.tr hcr5)).id
          have HP := Lib.hid hP
          clear hP
          generalize hpi : p.n.id = pi at e0
          have Hpi := Lib.hid hpi
          clear hpi
          obtain ⟨wE, rfl⟩ : ∃ x, x = wr := ⟨_, rfl⟩
          have hstart : ∀ x : Bool, (x = true ↔ 1 ≤ pi ∧ pi ≤ 1000) → IdIn L j p wE (.bool x) (.int .i64 1) wE := fun x hx =>
           ⟨1, x, Nat.le_refl _, hj1, rfl, rfl, Chg.refl _ _, by rw [Hpi.out, hx]; exact ⟨fun h => ⟨h, fun k q h1 h2 _ => by omega⟩, fun h => h.1⟩⟩
          have Hstart := Lib.hid hstart
          clear hstart
          have hbool : ∃ x : Bool, (x = true ↔ 1 ≤ pi ∧ pi ≤ 1000) ∧ x = (decide (1 ≤ pi) && decide (pi ≤ 1000)) := ⟨_, by simp, rfl⟩
          by_cases hi1 : 1 ≤ pi
          ·by_cases hi2 : pi ≤ 1000
           ·go_wp2_with fail
            go_loopw [11, 12] (fun vo vk wr' => IdIn L j p wE vo vk wr') (fun _ vk _ => j - (intOf vk).toNat)
            case atStart => exact Hstart.out true (⟨fun _ => ⟨by omega, by omega⟩, fun _ => rfl⟩)
            case round =>
             obtain ⟨kk, okb, hk1, hkj, rfl, rfl, hcr6, hiff⟩ := hrel
             have Hiff := Lib.hid hiff
             clear hiff
             by_cases hkl : kk < j
             ·have hq0 := Hel.out kk L[kk] (by simp [show kk < L.length by omega])
              have hgetq : L[kk]? = some L[kk] := List.getElem?_eq_getElem (by omega)
              generalize L[kk] = q at hq0 hgetq
              have Hgetq := Lib.hid hgetq
              clear hgetq
              have hcQ := (hcLD.tr hcr5).tr hcr6
              have hq := hq0.keep0 hbw hcQ
              have hp := HP.out.keep0 hbw hcQ
              have qi := hq.id
              have pi' := hp.id
              rw [Hpi.out] at pi'
              clear hq0 hq hp
              have hkL : (kk : Int) < (L.length : Int) := by omega
              have hjL : (j : Int) < (L.length : Int) := by omega
              generalize haq : q.n.id = iq at qi
              have Haq := Lib.hid haq
              clear haq
              cases okb with
              | false =>
               go_wp2_with fail
               refine wp_region_n (fun w' => w'.cell? ⟨b, off + kk * 7, none⟩ = some (.int .i64 iq) ∧ w'.cell? ⟨b, off + j * 7, none⟩ = some (.int .i64 pi)) [] (by kernel_rfl) ?_ (fun hSh => ?_)
               ·exact ⟨qi, pi'⟩
               refine n_tA (v := ?_) 0 rfl (Or.inl ⟨by rfl, ?_⟩) ?_
               rotate_left 1
               ·(intro w' hSw; (try dsimp only at hSw); go_simp; try with_reducible rfl)
               simp only [Act.put, qA, qB, qC, qD, qE, qF]
               refine n_tA (v := ?_) 1 rfl (Or.inl ⟨by rfl, ?_⟩) ?_
               rotate_left 1
               ·(intro w' hSw; (try dsimp only at hSw); go_simp; try with_reducible rfl)
               simp only [Act.put, qA, qB, qC, qD, qE, qF]
               refine n_from 2 ?_
               intro htk
               iterate 13
                refine n_tB (v := undef) htk rfl (Or.inr ⟨by rfl, rfl⟩) ?_
                clear htk
                intro htk
                simp only [Nat.reduceAdd] at htk
                simp only [Act.put, qA, qB, qC, qD, qE, qF]
               clear htk
               refine n_tA (v := ?_) 15 rfl (Or.inl ⟨by rfl, ?_⟩) ?_
               rotate_left 1
               ·(intro w' hSw; (try dsimp only at hSw); go_simp; try with_reducible rfl)
               simp only [Act.put, qA, qB, qC, qD, qE, qF]
               refine n_tA (v := ?_) 16 rfl (Or.inl ⟨by rfl, ?_⟩) ?_
               rotate_left 1
               ·(intro w' hSw; (try dsimp only at hSw); go_simp; try with_reducible rfl)
               simp only [Act.put, qA, qB, qC, qD, qE, qF]
               refine n_done (by kernel_rfl) ?_
               go_wp2_with fail
               exact ⟨⟨kk + 1, false, by omega, hkl, by go_num, rfl, hcr6.drew, idIn_false Hiff.out⟩, by simp [intOf]; omega⟩
              | true =>
               have HX := Lib.hid (Hiff.out.1 rfl)
               by_cases hi : iq = pi
               ·subst hi
                have hi' : (iq != iq) = false := by simp
                go_wp2_with fail
                refine wp_region_n (fun w' => w'.cell? ⟨b, off + kk * 7, none⟩ = some (.int .i64 iq) ∧ w'.cell? ⟨b, off + j * 7, none⟩ = some (.int .i64 iq)) [] (by kernel_rfl) ?_ (fun hSh => ?_)
                ·exact ⟨qi, pi'⟩
                refine n_from 0 ?_
                intro htk
                iterate 14
                 refine n_tB (v := ?_) htk rfl (Or.inl ⟨by rfl, ?_⟩) ?_
                 rotate_left 1
                 ·(intro w' hSw; (try dsimp only at hSw); go_simp; try with_reducible rfl)
                 clear htk
                 intro htk
                 simp only [Nat.reduceAdd] at htk
                 simp only [Act.put, qA, qB, qC, qD, qE, qF]
                clear htk
                refine n_tA (v := ?_) 14 rfl (Or.inl ⟨by rfl, ?_⟩) ?_
                rotate_left 1
                ·(intro w' hSw; (try dsimp only at hSw); go_simp; (try simp only [hi']); try with_reducible rfl)
                simp only [Act.put, qA, qB, qC, qD, qE, qF]
                refine n_tA (v := ?_) 15 rfl (Or.inl ⟨by rfl, ?_⟩) ?_
                rotate_left 1
                ·(intro w' hSw; (try dsimp only at hSw); go_simp; try with_reducible rfl)
                simp only [Act.put, qA, qB, qC, qD, qE, qF]
                refine n_tA (v := ?_) 16 rfl (Or.inl ⟨by rfl, ?_⟩) ?_
                rotate_left 1
                ·(intro w' hSw; (try dsimp only at hSw); go_simp; try with_reducible rfl)
                simp only [Act.put, qA, qB, qC, qD, qE, qF]
                refine n_done (by kernel_rfl) ?_
                go_wp2_with fail
                refine ⟨⟨kk + 1, false, by omega, hkl, by go_num, rfl, hcr6.drew, ⟨fun h => (by cases h), fun h => ?_⟩⟩, by simp [intOf]; omega⟩
                exact absurd (Haq.out.trans Hpi.out.symm) (h.2 kk q hk1 (by omega) Hgetq.out)
               ·have hi' : (iq != pi) = true := by simpa using hi
                have Hi := Lib.hid hi
                clear hi
                go_wp2_with fail
                refine wp_region_n (fun w' => w'.cell? ⟨b, off + kk * 7, none⟩ = some (.int .i64 iq) ∧ w'.cell? ⟨b, off + j * 7, none⟩ = some (.int .i64 pi)) [] (by kernel_rfl) ?_ (fun hSh => ?_)
                ·exact ⟨qi, pi'⟩
                refine n_from 0 ?_
                intro htk
                iterate 14
                 refine n_tB (v := ?_) htk rfl (Or.inl ⟨by rfl, ?_⟩) ?_
                 rotate_left 1
                 ·(intro w' hSw; (try dsimp only at hSw); go_simp; try with_reducible rfl)
                 clear htk
                 intro htk
                 simp only [Nat.reduceAdd] at htk
                 simp only [Act.put, qA, qB, qC, qD, qE, qF]
                clear htk
                refine n_tA (v := ?_) 14 rfl (Or.inl ⟨by rfl, ?_⟩) ?_
                rotate_left 1
                ·(intro w' hSw; (try dsimp only at hSw); go_simp; (try simp only [hi']); try with_reducible rfl)
                simp only [Act.put, qA, qB, qC, qD, qE, qF]
                refine n_tA (v := ?_) 15 rfl (Or.inl ⟨by rfl, ?_⟩) ?_
                rotate_left 1
                ·(intro w' hSw; (try dsimp only at hSw); go_simp; try with_reducible rfl)
                simp only [Act.put, qA, qB, qC, qD, qE, qF]
                refine n_tA (v := ?_) 16 rfl (Or.inl ⟨by rfl, ?_⟩) ?_
                rotate_left 1
                ·(intro w' hSw; (try dsimp only at hSw); go_simp; try with_reducible rfl)
                simp only [Act.put, qA, qB, qC, qD, qE, qF]
                refine n_done (by kernel_rfl) ?_
                go_wp2_with fail
                exact ⟨⟨kk + 1, true, by omega, hkl, by go_num, rfl, hcr6.drew, idIn_step (ok := true) ⟨fun _ => HX.out, fun _ => rfl⟩ Hgetq.out (fun h => Hi.out (Haq.out.symm.trans (h.trans Hpi.out)))⟩, by simp [intOf]; omega⟩
             ·obtain rfl : kk = j := by omega
              have hcC := hcr5.tr hcr6
              cases okb with
              | false =>
               have hbad : ¬ AllOk L (IdOk L) := fun h => by
                have h8 := h kk p hj1 Hget.out
                have h9 := Hiff.out.2 ⟨⟨h8.1, h8.2.1⟩, h8.2.2⟩
                cases h9
               have Hbad := Lib.hid hbad
               clear hbad
               go_wp2_with fail
               go_ret
               exact ⟨5, rfl, .num Hm.out Hd.out Hrt.out Hfit.out Hname.out Hbad.out, hcD.tr hcC⟩
              | true =>
               have hgood : IdOk L kk p := by
                have h8 := Hiff.out.1 rfl
                exact ⟨h8.1.1, h8.1.2, h8.2⟩
               have Hgood := Lib.hid hgood
               clear hgood
               go_wp2_with fail
               refine ⟨⟨kk + 1, by omega, by go_num, hcC, fun i' p' h1 h2 h3 => ?_⟩, by simp [intOf]; omega⟩
               by_cases h4 : i' < kk
               ·exact Hall.out i' p' h1 h4 h3
               ·obtain rfl : i' = kk := by omega
                have h5 := Hget.out
                rw [h3] at h5
                obtain rfl := Option.some.inj h5
                exact Hgood.out
           ·go_wp2_with fail
            go_loopw [11, 12] (fun vo vk wr' => IdIn L j p wE vo vk wr') (fun _ vk _ => j - (intOf vk).toNat)
            case atStart => exact Hstart.out false (⟨fun h => (by cases h), fun h => (by omega)⟩)
            case round =>
             obtain ⟨kk, okb, hk1, hkj, rfl, rfl, hcr6, hiff⟩ := hrel
             have Hiff := Lib.hid hiff
             clear hiff
             by_cases hkl : kk < j
             ·have hq0 := Hel.out kk L[kk] (by simp [show kk < L.length by omega])
              have hgetq : L[kk]? = some L[kk] := List.getElem?_eq_getElem (by omega)
              generalize L[kk] = q at hq0 hgetq
              have Hgetq := Lib.hid hgetq
              clear hgetq
              have hcQ := (hcLD.tr hcr5).tr hcr6
              have hq := hq0.keep0 hbw hcQ
              have hp := HP.out.keep0 hbw hcQ
              have qi := hq.id
              have pi' := hp.id
              rw [Hpi.out] at pi'
              clear hq0 hq hp
              have hkL : (kk : Int) < (L.length : Int) := by omega
              have hjL : (j : Int) < (L.length : Int) := by omega
              generalize haq : q.n.id = iq at qi
              have Haq := Lib.hid haq
              clear haq
              cases okb with
              | false =>
               go_wp2_with fail
               refine wp_region_n (fun w' => w'.cell? ⟨b, off + kk * 7, none⟩ = some (.int .i64 iq) ∧ w'.cell? ⟨b, off + j * 7, none⟩ = some (.int .i64 pi)) [] (by kernel_rfl) ?_ (fun hSh => ?_)
               ·exact ⟨qi, pi'⟩
               refine n_tA (v := ?_) 0 rfl (Or.inl ⟨by rfl, ?_⟩) ?_
               rotate_left 1
               ·(intro w' hSw; (try dsimp only at hSw); go_simp; try with_reducible rfl)
               simp only [Act.put, qA, qB, qC, qD, qE, qF]
               refine n_tA (v := ?_) 1 rfl (Or.inl ⟨by rfl, ?_⟩) ?_
               rotate_left 1
               ·(intro w' hSw; (try dsimp only at hSw); go_simp; try with_reducible rfl)
               simp only [Act.put, qA, qB, qC, qD, qE, qF]
               refine n_from 2 ?_
               intro htk
               iterate 13
                refine n_tB (v := undef) htk rfl (Or.inr ⟨by rfl, rfl⟩) ?_
                clear htk
                intro htk
                simp only [Nat.reduceAdd] at htk
                simp only [Act.put, qA, qB, qC, qD, qE, qF]
               clear htk
               refine n_tA (v := ?_) 15 rfl (Or.inl ⟨by rfl, ?_⟩) ?_
               rotate_left 1
               ·(intro w' hSw; (try dsimp only at hSw); go_simp; try with_reducible rfl)
               simp only [Act.put, qA, qB, qC, qD, qE, qF]
               refine n_tA (v := ?_) 16 rfl (Or.inl ⟨by rfl, ?_⟩) ?_
               rotate_left 1
               ·(intro w' hSw; (try dsimp only at hSw); go_simp; try with_reducible rfl)
               simp only [Act.put, qA, qB, qC, qD, qE, qF]
               refine n_done (by kernel_rfl) ?_
               go_wp2_with fail
               exact ⟨⟨kk + 1, false, by omega, hkl, by go_num, rfl, hcr6.drew, idIn_false Hiff.out⟩, by simp [intOf]; omega⟩
              | true =>
               have HX := Lib.hid (Hiff.out.1 rfl)
               by_cases hi : iq = pi
               ·subst hi
                have hi' : (iq != iq) = false := by simp
                go_wp2_with fail
                refine wp_region_n (fun w' => w'.cell? ⟨b, off + kk * 7, none⟩ = some (.int .i64 iq) ∧ w'.cell? ⟨b, off + j * 7, none⟩ = some (.int .i64 iq)) [] (by kernel_rfl) ?_ (fun hSh => ?_)
                ·exact ⟨qi, pi'⟩
                refine n_from 0 ?_
                intro htk
                iterate 14
                 refine n_tB (v := ?_) htk rfl (Or.inl ⟨by rfl, ?_⟩) ?_
                 rotate_left 1
                 ·(intro w' hSw; (try dsimp only at hSw); go_simp; try with_reducible rfl)
                 clear htk
                 intro htk
                 simp only [Nat.reduceAdd] at htk
                 simp only [Act.put, qA, qB, qC, qD, qE, qF]
                clear htk
                refine n_tA (v := ?_) 14 rfl (Or.inl ⟨by rfl, ?_⟩) ?_
                rotate_left 1
                ·(intro w' hSw; (try dsimp only at hSw); go_simp; (try simp only [hi']); try with_reducible rfl)
                simp only [Act.put, qA, qB, qC, qD, qE, qF]
                refine n_tA (v := ?_) 15 rfl (Or.inl ⟨by rfl, ?_⟩) ?_
                rotate_left 1
                ·(intro w' hSw; (try dsimp only at hSw); go_simp; try with_reducible rfl)
                simp only [Act.put, qA, qB, qC, qD, qE, qF]
                refine n_tA (v := ?_) 16 rfl (Or.inl ⟨by rfl, ?_⟩) ?_
                rotate_left 1
                ·(intro w' hSw; (try dsimp only at hSw); go_simp; try with_reducible rfl)
                simp only [Act.put, qA, qB, qC, qD, qE, qF]
                refine n_done (by kernel_rfl) ?_
                go_wp2_with fail
                refine ⟨⟨kk + 1, false, by omega, hkl, by go_num, rfl, hcr6.drew, ⟨fun h => (by cases h), fun h => ?_⟩⟩, by simp [intOf]; omega⟩
                exact absurd (Haq.out.trans Hpi.out.symm) (h.2 kk q hk1 (by omega) Hgetq.out)
               ·have hi' : (iq != pi) = true := by simpa using hi
                have Hi := Lib.hid hi
                clear hi
                go_wp2_with fail
                refine wp_region_n (fun w' => w'.cell? ⟨b, off + kk * 7, none⟩ = some (.int .i64 iq) ∧ w'.cell? ⟨b, off + j * 7, none⟩ = some (.int .i64 pi)) [] (by kernel_rfl) ?_ (fun hSh => ?_)
                ·exact ⟨qi, pi'⟩
                refine n_from 0 ?_
                intro htk
                iterate 14
                 refine n_tB (v := ?_) htk rfl (Or.inl ⟨by rfl, ?_⟩) ?_
                 rotate_left 1
                 ·(intro w' hSw; (try dsimp only at hSw); go_simp; try with_reducible rfl)
                 clear htk
                 intro htk
                 simp only [Nat.reduceAdd] at htk
                 simp only [Act.put, qA, qB, qC, qD, qE, qF]
                clear htk
                refine n_tA (v := ?_) 14 rfl (Or.inl ⟨by rfl, ?_⟩) ?_
                rotate_left 1
                ·(intro w' hSw; (try dsimp only at hSw); go_simp; (try simp only [hi']); try with_reducible rfl)
                simp only [Act.put, qA, qB, qC, qD, qE, qF]
                refine n_tA (v := ?_) 15 rfl (Or.inl ⟨by rfl, ?_⟩) ?_
                rotate_left 1
                ·(intro w' hSw; (try dsimp only at hSw); go_simp; try with_reducible rfl)
                simp only [Act.put, qA, qB, qC, qD, qE, qF]
                refine n_tA (v := ?_) 16 rfl (Or.inl ⟨by rfl, ?_⟩) ?_
                rotate_left 1
                ·(intro w' hSw; (try dsimp only at hSw); go_simp; try with_reducible rfl)
                simp only [Act.put, qA, qB, qC, qD, qE, qF]
                refine n_done (by kernel_rfl) ?_
                go_wp2_with fail
                exact ⟨⟨kk + 1, true, by omega, hkl, by go_num, rfl, hcr6.drew, idIn_step (ok := true) ⟨fun _ => HX.out, fun _ => rfl⟩ Hgetq.out (fun h => Hi.out (Haq.out.symm.trans (h.trans Hpi.out)))⟩, by simp [intOf]; omega⟩
             ·obtain rfl : kk = j := by omega
              have hcC := hcr5.tr hcr6
              cases okb with
              | false =>
               have hbad : ¬ AllOk L (IdOk L) := fun h => by
                have h8 := h kk p hj1 Hget.out
                have h9 := Hiff.out.2 ⟨⟨h8.1, h8.2.1⟩, h8.2.2⟩
                cases h9
               have Hbad := Lib.hid hbad
               clear hbad
               go_wp2_with fail
               go_ret
               exact ⟨5, rfl, .num Hm.out Hd.out Hrt.out Hfit.out Hname.out Hbad.out, hcD.tr hcC⟩
              | true =>
               have hgood : IdOk L kk p := by
                have h8 := Hiff.out.1 rfl
                exact ⟨h8.1.1, h8.1.2, h8.2⟩
               have Hgood := Lib.hid hgood
               clear hgood
               go_wp2_with fail
               refine ⟨⟨kk + 1, by omega, by go_num, hcC, fun i' p' h1 h2 h3 => ?_⟩, by simp [intOf]; omega⟩
               by_cases h4 : i' < kk
               ·exact Hall.out i' p' h1 h4 h3
               ·obtain rfl : i' = kk := by omega
                have h5 := Hget.out
                rw [h3] at h5
                obtain rfl := Option.some.inj h5
                exact Hgood.out
          ·go_wp2_with fail
           go_loopw [11, 12] (fun vo vk wr' => IdIn L j p wE vo vk wr') (fun _ vk _ => j - (intOf vk).toNat)
           case atStart => exact Hstart.out false (⟨fun h => (by cases h), fun h => (by omega)⟩)
           case round =>
            obtain ⟨kk, okb, hk1, hkj, rfl, rfl, hcr6, hiff⟩ := hrel
            have Hiff := Lib.hid hiff
            clear hiff
            by_cases hkl : kk < j
            ·have hq0 := Hel.out kk L[kk] (by simp [show kk < L.length by omega])
             have hgetq : L[kk]? = some L[kk] := List.getElem?_eq_getElem (by omega)
             generalize L[kk] = q at hq0 hgetq
             have Hgetq := Lib.hid hgetq
             clear hgetq
             have hcQ := (hcLD.tr hcr5).tr hcr6
             have hq := hq0.keep0 hbw hcQ
             have hp := HP.out.keep0 hbw hcQ
             have qi := hq.id
             have pi' := hp.id
             rw [Hpi.out] at pi'
             clear hq0 hq hp
             have hkL : (kk : Int) < (L.length : Int) := by omega
             have hjL : (j : Int) < (L.length : Int) := by omega
             generalize haq : q.n.id = iq at qi
             have Haq := Lib.hid haq
             clear haq
             cases okb with
             | false =>
              go_wp2_with fail
              refine wp_region_n (fun w' => w'.cell? ⟨b, off + kk * 7, none⟩ = some (.int .i64 iq) ∧ w'.cell? ⟨b, off + j * 7, none⟩ = some (.int .i64 pi)) [] (by kernel_rfl) ?_ (fun hSh => ?_)
              ·exact ⟨qi, pi'⟩
              refine n_tA (v := ?_) 0 rfl (Or.inl ⟨by rfl, ?_⟩) ?_
              rotate_left 1
              ·(intro w' hSw; (try dsimp only at hSw); go_simp; try with_reducible rfl)
              simp only [Act.put, qA, qB, qC, qD, qE, qF]
              refine n_tA (v := ?_) 1 rfl (Or.inl ⟨by rfl, ?_⟩) ?_
              rotate_left 1
              ·(intro w' hSw; (try dsimp only at hSw); go_simp; try with_reducible rfl)
              simp only [Act.put, qA, qB, qC, qD, qE, qF]
              refine n_from 2 ?_
              intro htk
              iterate 13
               refine n_tB (v := undef) htk rfl (Or.inr ⟨by rfl, rfl⟩) ?_
               clear htk
               intro htk
               simp only [Nat.reduceAdd] at htk
               simp only [Act.put, qA, qB, qC, qD, qE, qF]
              clear htk
              refine n_tA (v := ?_) 15 rfl (Or.inl ⟨by rfl, ?_⟩) ?_
              rotate_left 1
              ·(intro w' hSw; (try dsimp only at hSw); go_simp; try with_reducible rfl)
              simp only [Act.put, qA, qB, qC, qD, qE, qF]
              refine n_tA (v := ?_) 16 rfl (Or.inl ⟨by rfl, ?_⟩) ?_
              rotate_left 1
              ·(intro w' hSw; (try dsimp only at hSw); go_simp; try with_reducible rfl)
              simp only [Act.put, qA, qB, qC, qD, qE, qF]
              refine n_done (by kernel_rfl) ?_
              go_wp2_with fail
              exact ⟨⟨kk + 1, false, by omega, hkl, by go_num, rfl, hcr6.drew, idIn_false Hiff.out⟩, by simp [intOf]; omega⟩
             | true =>
              have HX := Lib.hid (Hiff.out.1 rfl)
              by_cases hi : iq = pi
              ·subst hi
               have hi' : (iq != iq) = false := by simp
               go_wp2_with fail
               refine wp_region_n (fun w' => w'.cell? ⟨b, off + kk * 7, none⟩ = some (.int .i64 iq) ∧ w'.cell? ⟨b, off + j * 7, none⟩ = some (.int .i64 iq)) [] (by kernel_rfl) ?_ (fun hSh => ?_)
               ·exact ⟨qi, pi'⟩
               refine n_from 0 ?_
               intro htk
               iterate 14
                refine n_tB (v := ?_) htk rfl (Or.inl ⟨by rfl, ?_⟩) ?_
                rotate_left 1
                ·(intro w' hSw; (try dsimp only at hSw); go_simp; try with_reducible rfl)
                clear htk
                intro htk
                simp only [Nat.reduceAdd] at htk
                simp only [Act.put, qA, qB, qC, qD, qE, qF]
               clear htk
               refine n_tA (v := ?_) 14 rfl (Or.inl ⟨by rfl, ?_⟩) ?_
               rotate_left 1
               ·(intro w' hSw; (try dsimp only at hSw); go_simp; (try simp only [hi']); try with_reducible rfl)
               simp only [Act.put, qA, qB, qC, qD, qE, qF]
               refine n_tA (v := ?_) 15 rfl (Or.inl ⟨by rfl, ?_⟩) ?_
               rotate_left 1
               ·(intro w' hSw; (try dsimp only at hSw); go_simp; try with_reducible rfl)
               simp only [Act.put, qA, qB, qC, qD, qE, qF]
               refine n_tA (v := ?_) 16 rfl (Or.inl ⟨by rfl, ?_⟩) ?_
               rotate_left 1
               ·(intro w' hSw; (try dsimp only at hSw); go_simp; try with_reducible rfl)
               simp only [Act.put, qA, qB, qC, qD, qE, qF]
               refine n_done (by kernel_rfl) ?_
               go_wp2_with fail
               refine ⟨⟨kk + 1, false, by omega, hkl, by go_num, rfl, hcr6.drew, ⟨fun h => (by cases h), fun h => ?_⟩⟩, by simp [intOf]; omega⟩
               exact absurd (Haq.out.trans Hpi.out.symm) (h.2 kk q hk1 (by omega) Hgetq.out)
              ·have hi' : (iq != pi) = true := by simpa using hi
               have Hi := Lib.hid hi
               clear hi
               go_wp2_with fail
               refine wp_region_n (fun w' => w'.cell? ⟨b, off + kk * 7, none⟩ = some (.int .i64 iq) ∧ w'.cell? ⟨b, off + j * 7, none⟩ = some (.int .i64 pi)) [] (by kernel_rfl) ?_ (fun hSh => ?_)
               ·exact ⟨qi, pi'⟩
               refine n_from 0 ?_
               intro htk
               iterate 14
                refine n_tB (v := ?_) htk rfl (Or.inl ⟨by rfl, ?_⟩) ?_
                rotate_left 1
                ·(intro w' hSw; (try dsimp only at hSw); go_simp; try with_reducible rfl)
                clear htk
                intro htk
                simp only [Nat.reduceAdd] at htk
                simp only [Act.put, qA, qB, qC, qD, qE, qF]
               clear htk
               refine n_tA (v := ?_) 14 rfl (Or.inl ⟨by rfl, ?_⟩) ?_
               rotate_left 1
               ·(intro w' hSw; (try dsimp only at hSw); go_simp; (try simp only [hi']); try with_reducible rfl)
               simp only [Act.put, qA, qB, qC, qD, qE, qF]
               refine n_tA (v := ?_) 15 rfl (Or.inl ⟨by rfl, ?_⟩) ?_
               rotate_left 1
               ·(intro w' hSw; (try dsimp only at hSw); go_simp; try with_reducible rfl)
               simp only [Act.put, qA, qB, qC, qD, qE, qF]
               refine n_tA (v := ?_) 16 rfl (Or.inl ⟨by rfl, ?_⟩) ?_
               rotate_left 1
               ·(intro w' hSw; (try dsimp only at hSw); go_simp; try with_reducible rfl)
               simp only [Act.put, qA, qB, qC, qD, qE, qF]
               refine n_done (by kernel_rfl) ?_
               go_wp2_with fail
               exact ⟨⟨kk + 1, true, by omega, hkl, by go_num, rfl, hcr6.drew, idIn_step (ok := true) ⟨fun _ => HX.out, fun _ => rfl⟩ Hgetq.out (fun h => Hi.out (Haq.out.symm.trans (h.trans Hpi.out)))⟩, by simp [intOf]; omega⟩
            ·obtain rfl : kk = j := by omega
             have hcC := hcr5.tr hcr6
             cases okb with
             | false =>
              have hbad : ¬ AllOk L (IdOk L) := fun h => by
               have h8 := h kk p hj1 Hget.out
               have h9 := Hiff.out.2 ⟨⟨h8.1, h8.2.1⟩, h8.2.2⟩
               cases h9
              have Hbad := Lib.hid hbad
              clear hbad
              go_wp2_with fail
              go_ret
              exact ⟨5, rfl, .num Hm.out Hd.out Hrt.out Hfit.out Hname.out Hbad.out, hcD.tr hcC⟩
             | true =>
              have hgood : IdOk L kk p := by
               have h8 := Hiff.out.1 rfl
               exact ⟨h8.1.1, h8.1.2, h8.2⟩
              have Hgood := Lib.hid hgood
              clear hgood
              go_wp2_with fail
              refine ⟨⟨kk + 1, by omega, by go_num, hcC, fun i' p' h1 h2 h3 => ?_⟩, by simp [intOf]; omega⟩
              by_cases h4 : i' < kk
              ·exact Hall.out i' p' h1 h4 h3
              ·obtain rfl : i' = kk := by omega
               have h5 := Hget.out
               rw [h3] at h5
               obtain rfl := Option.some.inj h5
               exact Hgood.out
         ·have hnum : AllOk L (IdOk L) := fun i' p' h1 h2 => Hall.out i' p' h1 (by have := (List.getElem?_eq_some_iff.1 h2).1; omega) h2
          have Hnum := Lib.hid hnum
          clear hnum Hall
          go_wp2_with fail
          go_ret
          exact ⟨0, rfl, .ok Hm.out Hd.out Hrt.out Hfit.out Hname.out Hnum.out, hcD.tr hcr5⟩
   ·have hno : ¬ (i = 0 ∧ nm.toList = [114, 111, 111, 116] ∧ r = 1 ∧ k = 0 ∧ ((sb.length : Int) == 0) = false) := by
     rintro ⟨rfl, h2, rfl, rfl, h5⟩
     apply hrt
     have h3 : nm = rootName := by
      rw [Lib.toList_data] at h2
      obtain ⟨d⟩ := nm
      show ByteArray.mk d = ByteArray.mk _
      congr
      exact Array.toList_inj.1 h2
     rw [hsh, h3]
     have h6 : (sb.length : Int) ≠ 0 := by simpa using h5
     simp only [decide_true, Bool.true_and, h6, ne_eq, not_false_iff]
    have hrf : rootB (.mk i nm r k sb) = false := by simpa using hrt
    have Hrf := Lib.hid hrf
    have Hno := Lib.hid hno
    clear hrt hsh hrf hno
    go_wp2_with fail
    all_goals first
     | (go_ret; exact ⟨3, rfl, .root Hm.out Hd.out Hrf.out, hc3⟩)
     | exact absurd ⟨by assumption, by assumption, by assumption, by assumption, by assumption⟩ Hno.out
end Go.Proofs.YtkchmgjmecojcaaGreatDoor
