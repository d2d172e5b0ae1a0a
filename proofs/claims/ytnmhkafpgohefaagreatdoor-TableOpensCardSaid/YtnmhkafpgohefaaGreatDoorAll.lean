/-
  schema.all: do all nodes below a node satisfy something?
-/
import Derived.Test.YtnmhkafpgohefaaGreatDoorWalk
import Derived.Shelf.Abstract
set_option linter.unusedVariables false
set_option maxHeartbeats 20000000
set_option maxRecDepth 100000
set_option linter.unusedSimpArgs false
namespace Go.Proofs.YtnmhkafpgohefaaGreatDoor
open Go.RowKit
mutual
def Nd.high : Nd → Nat
 | .mk _ _ _ _ s => 1 + Nd.highs s
def Nd.highs : List Nd → Nat
 | [] => 0
 | n :: ns => max n.high (Nd.highs ns)
end
theorem Nd.high_mem : ∀ {l : List Nd} {n : Nd}, n ∈ l → n.high ≤ Nd.highs l
 | [], n, h => by cases h
 | x :: xs, n, h => by
  rcases List.mem_cons.1 h with rfl | h
  ·simp only [Nd.highs]; omega
  ·have := Nd.high_mem h
   simp only [Nd.highs]; omega
def Low (n : Nd) (d : Int) : Prop := 0 ≤ d ∧ d + n.high ≤ 4611686018427387904
theorem Low.deep {n : Nd} {d : Int} (h : Low n d) : -4611686018427387904 ≤ d ∧ d ≤ 4611686018427387904 := by
 obtain ⟨h1, h2⟩ := h; omega
theorem Low.down {n : Nd} {d : Int} (h : Low n d) : ∀ x ∈ n.sub, Low x (d + 1) := by
 intro x hx
 obtain ⟨h1, h2⟩ := h
 obtain ⟨i, nm, r, k, s⟩ := n
 have := Nd.high_mem (show x ∈ s from hx)
 simp only [Nd.high] at h2
 exact ⟨by omega, by omega⟩
structure Oks {σ : Type} (g : Nat) (caps : Array Value) (e B c : Nat) (St : σ → World → Prop) (f : Nd → σ → Bool × σ) (Go : σ → Prop) : Prop where
 enters : ∀ args w, (callFunc g args).run Tryz.prog w = .ok (.enter g args) w
 lt : ∀ s w, St s w → c < w.heap.size
 keep : ∀ s w w', St s w → Chg NoB w w' → St s w'
 go : ∀ n s, Go s → (f n s).1 = true → Go (f n s).2
 call : ∀ (n : Nd) (s : σ) (w : World) (S : Nat → Prop) (cs : List Value), Go s → n.ok → Reads w S n.dt cs → (∀ b, S b → b < B) → B ≤ w.heap.size → St s w →
  Calls Tryz.prog g (#[.agg cs.toArray] ++ caps) w (RetSt St (f n s) e B c w)
def allF {σ : Type} (f : Nd → σ → Bool × σ) : Nd → Int → σ → Bool × σ := fun n d s => if d = 0 then (true, s) else f n s
theorem sees_all {σ : Type} {g : Nat} {caps : Array Value} {e B c : Nat} {St : σ → World → Prop} {f : Nd → σ → Bool × σ} {Go : σ → Prop} (H : Oks g caps e B c St f Go) (hne : e ≠ 124) (q : Nat) (hq : q ≠ c) :
  Sees 100 #[.pointer (some ⟨q, 0, none⟩)] e B c (fun s w => St s w ∧ Blk w q [.func (.func g) #[] caps] 124) (allF f) Low Go where
 enters := enters_of Tryz.func100 (by kernel_rfl) rfl
 lt := fun s w h => H.lt s w h.1
 keep := fun s w w' h hc => ⟨H.keep s w w' h.1 hc, h.2.keep hc nbE⟩
 deep := fun n d h => h.deep
 down := fun n d s h _ => h.down
 go := fun n d s _ hG => by
  simp only [allF]
  split
  ·exact fun _ => hG
  ·exact H.go n s hG
 call := by
  intro n d s w S cs hO hG hok hr hSB hBw ⟨hSt, hq0⟩
  have he := H.enters
  obtain ⟨i, nm, r, k, sb⟩ := n
  obtain ⟨sv, rfl, hs⟩ := reads_nd.1 hr
  obtain ⟨sa, cap, rfl, hlen, hcap, hel⟩ := reads_subs hs
  have hql : q < w.heap.size := hq0.lt
  have cq : w.cell? ⟨q, 0, none⟩ = some (.func (.func g) #[] caps) := hq0.cell 0
  by_cases hd : d = 0
  ·subst hd
   go_enter Tryz.func100, Tryz.ntmps100
   go_wp2_with fail
   go_ret
   exact ⟨rfl, ⟨H.keep _ _ _ hSt ((Chg.refl _ _).alloc _), hq0.alloc _⟩, (Chg.refl _ _).alloc _⟩
  ·have hb : (d == 0) = false := by simpa using hd
   have Hd := Lib.hid hd
   clear hd
   go_enter Tryz.func100, Tryz.ntmps100
   go_wp2_with fail
   generalize hw1 : w.alloc _ = w1
   have hc1 : Chg NoB w w1 := by
    rw [← hw1]
    repeat (first | exact Chg.refl _ _ | apply Chg.alloc | apply Chg.drew)
   clear hw1
   refine (H.call (.mk i nm r k sb) s w1 S _ hG hok (hr.chg0 hc1) hSB (by have := hc1.size; omega) (H.keep _ _ _ hSt hc1)).mono ?_
   rintro en w2 ⟨rfl, hSt2, hc2⟩
   have hq2 := (hq0.keep hc1 nbE).rows hc2 hq (fun e => hne e.symm)
   replace hc2 := hc1.rows0 hc2
   rcases hf : f (.mk i nm r k sb) s with ⟨b, st1⟩
   rw [hf] at hSt2
   have hfin : allF f (.mk i nm r k sb) d s = (b, st1) := by simp only [allF]; rw [if_neg Hd.out, hf]
   have Hfin := Lib.hid hfin
   clear hf hfin
   go_wp2_with fail
   go_ret
   rw [Hfin.out]
   exact ⟨rfl, ⟨hSt2, hq2⟩, hc2⟩
theorem all_any {σ : Type} {g : Nat} {caps : Array Value} {e B c : Nat} {St : σ → World → Prop} {f : Nd → σ → Bool × σ} {Go : σ → Prop} (H : Oks g caps e B c St f Go) (hne : e ≠ 124) (hn2 : e ≠ 56)
  (nd : Nd) (w : World) (S : Nat → Prop) (cs : List Value) (s : σ) (hh : nd.high ≤ 4611686018427387904) (hG : Go s) (hok : nd.ok) (hr : Reads w S nd.dt cs) (hSB : ∀ b, S b → b < B) (hBw : B ≤ w.heap.size) (hSt : St s w) :
  Calls Tryz.prog 61 #[.agg cs.toArray, .func (.func g) #[] caps] w (RetSt St (walkF (allF f) nd 0 s) e B c w) := by
 obtain ⟨i, nm, r, k, sb⟩ := nd
 obtain ⟨sv, rfl, hs⟩ := reads_nd.1 hr
 obtain ⟨sa, cap, rfl, hlen, hcap, hel⟩ := reads_subs hs
 have hlt := H.lt _ _ hSt
 go_enter Tryz.func61, Tryz.ntmps61
 go_wp2_with fail
 generalize hw1 : (w.alloc _).alloc _ = w1
 have hc1 : Chg NoB w w1 := by
  rw [← hw1]
  repeat (first | exact Chg.refl _ _ | apply Chg.alloc | apply Chg.drew)
 have hb1 : Blk w1 (w.heap.size + 1) ([.func (.func g) #[] caps]) 124 := by
  rw [← hw1]
  repeat (first | exact Blk.newAt (by first | rfl | (simp; done) | (simp; omega)) | apply Blk.alloc | apply Blk.drew)
 clear hw1
 refine (walk_any (sees_all H hne (w.heap.size + 1) (by omega)) hn2 _ (.mk i nm r k sb) w1 S _ 0 s (Nat.le_refl _) ⟨by omega, by omega⟩ hG hok (hr.chg0 hc1) hSB (by have := hc1.size; omega) ⟨H.keep _ _ _ hSt hc1, hb1⟩).mono ?_
 rintro en w2 ⟨rfl, hSt2, hc2⟩
 go_wp2_with fail
 go_ret
 exact ⟨rfl, hSt2.1, hc1.rows0 hc2⟩
end Go.Proofs.YtnmhkafpgohefaaGreatDoor
