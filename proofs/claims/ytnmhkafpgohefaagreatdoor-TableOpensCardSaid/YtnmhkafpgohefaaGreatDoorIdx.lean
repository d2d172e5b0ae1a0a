/-
  slices.IndexFunc over nodes, at two closures of evolve.
-/
import Derived.Test.YtnmhkafpgohefaaGreatDoorTreeMore
import Derived.Test.YtnmhkafpgohefaaGreatDoorWalk
import Derived.Test.YtnmhkafpgohefaaGreatDoorValid
set_option linter.unusedVariables false
set_option maxHeartbeats 20000000
set_option maxRecDepth 100000
set_option linter.unusedSimpArgs false
namespace Go.Proofs.YtnmhkafpgohefaaGreatDoor
open Go.RowKit
def IdxP (p : Nd → Bool) (l : List Nd) (k : Int) : Prop :=
 (k = -1 ∧ ∀ a ∈ l, p a = false) ∨ ∃ (j : Nat) (a : Nd), k = (j : Int) ∧ l[j]? = some a ∧ p a = true ∧ ∀ (i : Nat) (a' : Nd), i < j → l[i]? = some a' → p a' = false
def RetIdxP (p : Nd → Bool) (l : List Nd) (w : World) (e : Ending) (w' : World) : Prop := ∃ k, e = .returned (.int .i64 k) ∧ IdxP p l k ∧ Chg NoB w w'
def IdxPRel (p : Nd → Bool) (l : List Nd) (w : World) (vi : Value) (wr : World) : Prop := ∃ j : Nat, j ≤ l.length ∧ vi = .int .i64 (j : Nat) ∧ Chg NoB w wr ∧ ∀ (i : Nat) (a' : Nd), i < j → l[i]? = some a' → p a' = false
def idB (id : Int) (n : Nd) : Bool := decide (n.id = id)
def delB (id : Int) (n : Nd) : Bool := decide (n.id = id) || (decide (n.kind = 0) && n.sub.isEmpty)
theorem edit1_any (n : Nd) (id : Int) (c : Nat) (w : World) (S : Nat → Prop) (cs : List Value) (hr : Reads w S n.dt cs) (hc0 : w.cell? ⟨c, 0, none⟩ = some (.int .i64 id)) :
  Calls Tryz.prog 55 #[.agg cs.toArray, .pointer (some ⟨c, 0, none⟩)] w (RetV (.bool (idB id n)) w) := by
 obtain ⟨i, nm, r, k, s⟩ := n
 obtain ⟨sv, rfl, hs⟩ := reads_nd.1 hr
 have hlt := lt_of_cell hc0
 show Calls _ _ _ _ (RetV (.bool (decide (i = id))) w)
 by_cases h : i = id
 ·subst h
  go_enter Tryz.func55, Tryz.ntmps55
  go_wp2_with fail
  go_ret
  exact ⟨by simp, (Chg.refl _ _).alloc _⟩
 ·have hb : (i == id) = false := by simpa using h
  go_enter Tryz.func55, Tryz.ntmps55
  go_wp2_with fail
  go_ret
  exact ⟨by simp [h], (Chg.refl _ _).alloc _⟩
theorem drop1_any (n : Nd) (id : Int) (c : Nat) (w : World) (S : Nat → Prop) (cs : List Value) (hr : Reads w S n.dt cs) (hc0 : w.cell? ⟨c, 0, none⟩ = some (.int .i64 id)) :
  Calls Tryz.prog 97 #[.agg cs.toArray, .pointer (some ⟨c, 0, none⟩)] w (RetV (.bool (delB id n)) w) := by
 obtain ⟨i, nm, r, k, s⟩ := n
 obtain ⟨sv, rfl, hs⟩ := reads_nd.1 hr
 obtain ⟨a, cap, rfl, hlen, hcap, hel⟩ := reads_subs hs
 clear hs hel hr
 unfold maxLen at hcap
 have hlt := lt_of_cell hc0
 by_cases h : i = id
 ·have hb : (i == id) = true := by simpa using h
  have hres : delB id (.mk i nm r k s) = true := by simp [delB, Nd.id, h]
  have Hres := Lib.hid hres
  clear hres h
  go_enter Tryz.func97, Tryz.ntmps97
  go_wp2_with fail
  go_ret
  rw [Hres.out]
  exact ⟨by simp, (Chg.refl _ _).alloc _⟩
 ·have hb : (i == id) = false := by simpa using h
  by_cases h2 : k = 0
  ·have hb2 : (k == 0) = true := by simpa using h2
   by_cases h3 : s.length = 0
   ·have hres : delB id (.mk i nm r k s) = true := by
     have hs0 : s = [] := List.eq_nil_of_length_eq_zero h3
     subst hs0
     simp [delB, Nd.kind, Nd.sub, h2]
    have Hres := Lib.hid hres
    have hb3 : ((s.length : Int) == 0) = true := by simpa using h3
    clear hres h h2 h3
    go_enter Tryz.func97, Tryz.ntmps97
    go_wp2_with fail
    go_ret
    rw [Hres.out]
    exact ⟨by simp, (Chg.refl _ _).alloc _⟩
   ·have hres : delB id (.mk i nm r k s) = false := by
     have hs0 : s.isEmpty = false := by cases s; exact absurd rfl h3; rfl
     simp [delB, Nd.id, Nd.sub, h, hs0]
    have Hres := Lib.hid hres
    have hb3 : ((s.length : Int) == 0) = false := by
     rw [beq_eq_false_iff_ne]; omega
    clear hres h h2 h3
    go_enter Tryz.func97, Tryz.ntmps97
    go_wp2_with fail
    go_ret
    rw [Hres.out]
    exact ⟨by simp, (Chg.refl _ _).alloc _⟩
  ·have hres : delB id (.mk i nm r k s) = false := by simp [delB, Nd.id, Nd.kind, h, h2]
   have Hres := Lib.hid hres
   have hb2 : (k == 0) = false := by simpa using h2
   clear hres h h2
   go_enter Tryz.func97, Tryz.ntmps97
   go_wp2_with fail
   go_ret
   rw [Hres.out]
   exact ⟨by simp, (Chg.refl _ _).alloc _⟩
theorem indexE_any (l : List Nd) (id : Int) (c : Nat) (w : World) (S : Nat → Prop) (v : Value) (hr : Reads w S (.list 5 (Nd.dts l)) [v]) (hc0 : w.cell? ⟨c, 0, none⟩ = some (.int .i64 id)) :
  Calls Tryz.prog 54 #[v, .func (.func 55) #[] #[.pointer (some ⟨c, 0, none⟩)]] w (RetIdxP (idB id) l w) := by
 obtain ⟨a, cap, rfl, hlen, hcap, hel⟩ := reads_subs hr
 unfold maxLen at hcap
 have he := enters_of Tryz.func55 (P := Tryz.prog) (by kernel_rfl) rfl
 go_enter Tryz.func54, Tryz.ntmps54
 go_wp2_with fail
 go_loopw [8] (fun vi wr => IdxPRel (idB id) l w vi wr) (fun vi _ => l.length - (intOf vi).toNat)
 case atStart => exact ⟨0, Nat.zero_le _, rfl, Chg.refl _ _, fun i a' h => absurd h (by omega)⟩
 case round =>
  obtain ⟨j, hj, rfl, hc, hno⟩ := hrel
  have Hno := Lib.hid hno
  clear hno
  by_cases hlt : j < l.length
  ·have hltI : (j : Int) < (l.length : Int) := by omega
   obtain ⟨b, off, rfl, hSb, hbw, hE⟩ := hel (by omega)
   obtain ⟨ecs, hl5, hcells, hre⟩ := hE.get j l[j].dt (by simp [hlt])
   have Hat := Lib.hid (List.getElem?_eq_getElem hlt)
   generalize l[j] = nj at hre Hat
   obtain ⟨i1, n1, r1, k1, s1⟩ := nj
   obtain ⟨v1, rfl, hs1⟩ := reads_nd.1 hre
   have ef : ∀ t c, [Value.int .i64 i1, .string n1, .int .i64 r1, .int .i64 k1, v1][t]? = some c → wr.cell? ⟨b, off + j * 5 + t, none⟩ = some c := fun t c ht => (hc.cell (p := ⟨b, off + j * 5 + t, none⟩) hbw (fun e => e)).trans (hcells t c ht)
   have e0 : wr.cell? ⟨b, off + j * 5, none⟩ = some (.int .i64 i1) := ef 0 _ rfl
   have e1 : wr.cell? ⟨b, off + j * 5 + 1, none⟩ = some (.string n1) := ef 1 _ rfl
   have e2 : wr.cell? ⟨b, off + j * 5 + 2, none⟩ = some (.int .i64 r1) := ef 2 _ rfl
   have e3 : wr.cell? ⟨b, off + j * 5 + 3, none⟩ = some (.int .i64 k1) := ef 3 _ rfl
   have e4 : wr.cell? ⟨b, off + j * 5 + 4, none⟩ = some v1 := ef 4 _ rfl
   clear ef
   go_wp2_with fail
   refine (edit1_any (.mk i1 n1 r1 k1 s1) id c wr S _ (hre.chg0 hc) ((hc.cell (lt_of_cell hc0) nbE).trans hc0)).mono ?_
   rintro en w2 ⟨rfl, hc2⟩
   cases hp : idB id (.mk i1 n1 r1 k1 s1) with
   | true =>
    have Hp := Lib.hid hp
    clear hp
    go_wp2_with fail
    go_ret
    exact ⟨_, rfl, .inr ⟨j, _, rfl, Hat.out, Hp.out, Hno.out⟩, hc.tr hc2⟩
   | false =>
    have Hp := Lib.hid hp
    clear hp
    go_wp2_with fail
    go_roundw
    case rel =>
     refine ⟨j + 1, hlt, by go_num, hc.tr hc2, fun i a' hi ha => ?_⟩
     by_cases hij : i = j
     ·subst hij
      obtain rfl := Option.some.inj (Hat.out.symm.trans ha)
      exact Hp.out
     ·exact Hno.out i a' (by omega) ha
    case measure => simp [intOf]; omega
  ·have hjl : j = l.length := by omega
   subst hjl
   have hltI : ¬ ((l.length : Int) < (l.length : Int)) := by omega
   go_wp2_with fail
   go_ret
   refine ⟨_, rfl, .inl ⟨rfl, fun a' ha => ?_⟩, hc⟩
   obtain ⟨i, hi⟩ := List.mem_iff_getElem?.1 ha
   exact Hno.out i a' (List.getElem?_eq_some_iff.1 hi).1 hi
theorem indexD_any (l : List Nd) (id : Int) (c : Nat) (w : World) (S : Nat → Prop) (v : Value) (hr : Reads w S (.list 5 (Nd.dts l)) [v]) (hc0 : w.cell? ⟨c, 0, none⟩ = some (.int .i64 id)) :
  Calls Tryz.prog 54 #[v, .func (.func 97) #[] #[.pointer (some ⟨c, 0, none⟩)]] w (RetIdxP (delB id) l w) := by
 obtain ⟨a, cap, rfl, hlen, hcap, hel⟩ := reads_subs hr
 unfold maxLen at hcap
 have he := enters_of Tryz.func97 (P := Tryz.prog) (by kernel_rfl) rfl
 go_enter Tryz.func54, Tryz.ntmps54
 go_wp2_with fail
 go_loopw [8] (fun vi wr => IdxPRel (delB id) l w vi wr) (fun vi _ => l.length - (intOf vi).toNat)
 case atStart => exact ⟨0, Nat.zero_le _, rfl, Chg.refl _ _, fun i a' h => absurd h (by omega)⟩
 case round =>
  obtain ⟨j, hj, rfl, hc, hno⟩ := hrel
  have Hno := Lib.hid hno
  clear hno
  by_cases hlt : j < l.length
  ·have hltI : (j : Int) < (l.length : Int) := by omega
   obtain ⟨b, off, rfl, hSb, hbw, hE⟩ := hel (by omega)
   obtain ⟨ecs, hl5, hcells, hre⟩ := hE.get j l[j].dt (by simp [hlt])
   have Hat := Lib.hid (List.getElem?_eq_getElem hlt)
   generalize l[j] = nj at hre Hat
   obtain ⟨i1, n1, r1, k1, s1⟩ := nj
   obtain ⟨v1, rfl, hs1⟩ := reads_nd.1 hre
   have ef : ∀ t c, [Value.int .i64 i1, .string n1, .int .i64 r1, .int .i64 k1, v1][t]? = some c → wr.cell? ⟨b, off + j * 5 + t, none⟩ = some c := fun t c ht => (hc.cell (p := ⟨b, off + j * 5 + t, none⟩) hbw (fun e => e)).trans (hcells t c ht)
   have e0 : wr.cell? ⟨b, off + j * 5, none⟩ = some (.int .i64 i1) := ef 0 _ rfl
   have e1 : wr.cell? ⟨b, off + j * 5 + 1, none⟩ = some (.string n1) := ef 1 _ rfl
   have e2 : wr.cell? ⟨b, off + j * 5 + 2, none⟩ = some (.int .i64 r1) := ef 2 _ rfl
   have e3 : wr.cell? ⟨b, off + j * 5 + 3, none⟩ = some (.int .i64 k1) := ef 3 _ rfl
   have e4 : wr.cell? ⟨b, off + j * 5 + 4, none⟩ = some v1 := ef 4 _ rfl
   clear ef
   go_wp2_with fail
   refine (drop1_any (.mk i1 n1 r1 k1 s1) id c wr S _ (hre.chg0 hc) ((hc.cell (lt_of_cell hc0) nbE).trans hc0)).mono ?_
   rintro en w2 ⟨rfl, hc2⟩
   cases hp : delB id (.mk i1 n1 r1 k1 s1) with
   | true =>
    have Hp := Lib.hid hp
    clear hp
    go_wp2_with fail
    go_ret
    exact ⟨_, rfl, .inr ⟨j, _, rfl, Hat.out, Hp.out, Hno.out⟩, hc.tr hc2⟩
   | false =>
    have Hp := Lib.hid hp
    clear hp
    go_wp2_with fail
    go_roundw
    case rel =>
     refine ⟨j + 1, hlt, by go_num, hc.tr hc2, fun i a' hi ha => ?_⟩
     by_cases hij : i = j
     ·subst hij
      obtain rfl := Option.some.inj (Hat.out.symm.trans ha)
      exact Hp.out
     ·exact Hno.out i a' (by omega) ha
    case measure => simp [intOf]; omega
  ·have hjl : j = l.length := by omega
   subst hjl
   have hltI : ¬ ((l.length : Int) < (l.length : Int)) := by omega
   go_wp2_with fail
   go_ret
   refine ⟨_, rfl, .inl ⟨rfl, fun a' ha => ?_⟩, hc⟩
   obtain ⟨i, hi⟩ := List.mem_iff_getElem?.1 ha
   exact Hno.out i a' (List.getElem?_eq_some_iff.1 hi).1 hi
end Go.Proofs.YtnmhkafpgohefaaGreatDoor
