/-
 Are two schemas alike but for names and places: by what is known of each node; the plain law.
-/
import Derived.Test.YtgcmfpcgmkkobaaGreatDoorPackI
set_option linter.unusedVariables false
set_option linter.unusedSimpArgs false
namespace Go.Proofs.YtgcmfpcgmkkobaaGreatDoor
open Go.RowKit

/-- A node, and the ID of what is around it. -/
abbrev Kn := Nd × Int
mutual
def knN (a : Int) : Nd → List Kn
 | .mk i n r k s => (.mk i n r k s, a) :: knL i s
def knL (a : Int) : List Nd → List Kn
 | [] => []
 | n :: ns => knN a n ++ knL a ns
end
theorem knL_append (a : Int) : ∀ (l m : List Nd), knL a (l ++ m) = knL a l ++ knL a m
 | [], m => rfl
 | n :: ns, m => by simp only [List.cons_append, knL, knL_append a ns m, List.append_assoc]
mutual
theorem knN_ids : ∀ (a : Int) (n : Nd), (knN a n).map (fun x => x.1.id) = idsN n
 | a, .mk i n r k s => by
  simp only [knN, idsN, List.map_cons]
  rw [knL_ids i s]
  rfl
theorem knL_ids : ∀ (a : Int) (l : List Nd), (knL a l).map (fun x => x.1.id) = idsL l
 | a, [] => rfl
 | a, n :: ns => by simp only [knL, idsL, List.map_append, knN_ids a n, knL_ids a ns]
end
mutual
theorem knN_len : ∀ (a : Int) (n : Nd), (knN a n).length = n.weigh
 | a, .mk i n r k s => by simp only [knN, List.length_cons, knL_len i s, Nd.weigh]; omega
theorem knL_len : ∀ (a : Int) (l : List Nd), (knL a l).length = Nd.weighs l
 | a, [] => rfl
 | a, n :: ns => by simp only [knL, List.length_append, knN_len a n, knL_len a ns, Nd.weighs]
end
/-- The j-th place of a list of all places: its node, and the ID of the place around it. -/
def Kno (L : List Pl) (j : Nat) (x : Kn) : Prop := ∃ (p : Pl) (b : Nat) (pb : Pl), L[j]? = some p ∧ p.n = x.1 ∧ p.around = (b : Int) ∧ L[b]? = some pb ∧ pb.n.id = x.2
mutual
theorem kno_N (L : List Pl) : ∀ (n : Nd) (d : Int) (b at0 : Nat) (pb : Pl), L[b]? = some pb → (∀ x, x < n.weigh → L[at0 + x]? = (fullN n d b at0)[x]?) →
  ∀ x, x < n.weigh → ∃ k, (knN pb.n.id n)[x]? = some k ∧ Kno L (at0 + x) k
 | .mk i nm r k s, d, b, at0, pb, hb, hL, x, hx => by
  have h0 := hL 0 (by simp only [Nd.weigh]; omega)
  simp only [fullN, List.getElem?_cons_zero, Nat.add_zero] at h0
  cases x with
  | zero => exact ⟨_, rfl, ⟨.mk i nm r k s, d, (b : Int)⟩, b, pb, h0, rfl, rfl, hb, rfl⟩
  | succ x =>
   simp only [Nd.weigh] at hx
   obtain ⟨k', h1, h2⟩ := kno_L L s (d + 1) at0 (at0 + 1) ⟨.mk i nm r k s, d, (b : Int)⟩ h0 (fun y hy => by
    have h3 := hL (y + 1) (by simp only [Nd.weigh]; omega)
    simp only [fullN, List.getElem?_cons_succ] at h3
    rw [← h3]
    congr 1
    omega) x (by omega)
   refine ⟨k', ?_, ?_⟩
   ·simp only [knN, List.getElem?_cons_succ]
    exact h1
   ·rw [show at0 + (x + 1) = at0 + 1 + x by omega]
    exact h2
theorem kno_L (L : List Pl) : ∀ (l : List Nd) (d : Int) (b at0 : Nat) (pb : Pl), L[b]? = some pb → (∀ x, x < Nd.weighs l → L[at0 + x]? = (fullL l d b at0)[x]?) →
  ∀ x, x < Nd.weighs l → ∃ k, (knL pb.n.id l)[x]? = some k ∧ Kno L (at0 + x) k
 | [], d, b, at0, pb, hb, hL, x, hx => by simp [Nd.weighs] at hx
 | n :: ns, d, b, at0, pb, hb, hL, x, hx => by
  simp only [Nd.weighs] at hx
  have hl1 := fullN_len n d (b : Int) at0
  by_cases hlt : x < n.weigh
  ·obtain ⟨k', h1, h2⟩ := kno_N L n d b at0 pb hb (fun y hy => by
    have h3 := hL y (by simp only [Nd.weighs]; omega)
    simp only [fullL] at h3
    rwa [List.getElem?_append_left (by omega)] at h3) x hlt
   refine ⟨k', ?_, h2⟩
   simp only [knL]
   rw [List.getElem?_append_left (by rw [knN_len]; exact hlt)]
   exact h1
  ·obtain ⟨k', h1, h2⟩ := kno_L L ns d b (at0 + n.weigh) pb hb (fun y hy => by
    have h3 := hL (n.weigh + y) (by simp only [Nd.weighs]; omega)
    simp only [fullL] at h3
    rw [List.getElem?_append_right (by omega), hl1, Nat.add_sub_cancel_left] at h3
    rw [← h3]
    congr 1
    omega) (x - n.weigh) (by omega)
   refine ⟨k', ?_, ?_⟩
   ·simp only [knL]
    rw [List.getElem?_append_right (by rw [knN_len]; omega), knN_len]
    exact h1
   ·rw [show at0 + x = at0 + n.weigh + (x - n.weigh) by omega]
    exact h2
end
/-- What is known of a schema's nodes. -/
def knOf (nd : Nd) : List Kn := knL nd.id nd.sub
theorem kn_flat {nd : Nd} (h : flatOf nd = fullN nd 1 (-1) 0) : (flatOf nd).length = (knOf nd).length + 1 ∧ ∀ j k, (knOf nd)[j]? = some k → Kno (flatOf nd) (j + 1) k := by
 obtain ⟨i, nm, r, kd, s⟩ := nd
 rw [h]
 refine ⟨by rw [fullN_len]; simp only [knOf, knL_len, Nd.sub, Nd.weigh]; omega, fun j k hj => ?_⟩
 have hlt : j < Nd.weighs s := by
  have h1 := (List.getElem?_eq_some_iff.1 hj).1
  rwa [knOf, knL_len] at h1
 obtain ⟨k', h1, h2⟩ := kno_L (fullN (.mk i nm r kd s) 1 (-1) 0) s (1 + 1) 0 1 ⟨.mk i nm r kd s, 1, -1⟩ rfl (fun y hy => by
  rw [Nat.add_comm 1 y]
  rfl) j hlt
 have hk : k' = k := Option.some.inj (h1.symm.trans hj)
 subst hk
 rw [Nat.add_comm j 1]
 exact h2

def pairB (x y : Kn) : Bool := (decide (x.1.kind = y.1.kind) || (decide (x.1.kind = 2) && decide (y.1.kind = 3))) && (decide (x.1.rep = y.1.rep) || (decide (x.1.rep = 1) && decide (y.1.rep = 2))) && decide (x.2 = y.2)
def sameF (A B : List Kn) : Bool := A.all fun x => B.all fun y => !decide (x.1.id = y.1.id) || pairB x y
/-- By the second's IDs, each of which is there once. -/
def seekF (B : List Kn) (i : Int) : Option Kn := B.find? (fun y => decide (y.1.id = i))
theorem seek_some {B : List Kn} {i : Int} {y : Kn} (h : seekF B i = some y) : y ∈ B ∧ y.1.id = i := by
 unfold seekF at h
 exact ⟨List.mem_of_find?_eq_some h, by simpa using List.find?_some h⟩
theorem seek_none {B : List Kn} {i : Int} (h : seekF B i = none) : ∀ y ∈ B, y.1.id ≠ i := by
 unfold seekF at h
 intro y hy
 have := List.find?_eq_none.1 h y hy
 simpa using this
theorem eq_of_kid : ∀ {B : List Kn}, (B.map fun x => x.1.id).Nodup → ∀ {x y : Kn}, x ∈ B → y ∈ B → x.1.id = y.1.id → x = y
 | [], _, _, _, hx, _, _ => by cases hx
 | b :: bs, hn, x, y, hx, hy, he => by
  simp only [List.map_cons, List.nodup_cons] at hn
  rcases List.mem_cons.1 hx with e1 | h1
  ·rcases List.mem_cons.1 hy with e2 | h2
   ·rw [e1, e2]
   ·exact absurd (List.mem_map.2 ⟨y, h2, by rw [← he, e1]⟩) hn.1
  ·rcases List.mem_cons.1 hy with e2 | h2
   ·exact absurd (List.mem_map.2 ⟨x, h1, by rw [he, e2]⟩) hn.1
   ·exact eq_of_kid hn.2 h1 h2 he
def oneF (B : List Kn) (x : Kn) : Bool := match seekF B x.1.id with
 | none => true
 | some y => pairB x y
theorem oneF_eq {B : List Kn} (hB : (B.map fun x => x.1.id).Nodup) (x : Kn) : oneF B x = B.all fun y => !decide (x.1.id = y.1.id) || pairB x y := by
 unfold oneF
 cases hs : seekF B x.1.id with
 | none =>
  have hn := seek_none hs
  symm
  rw [List.all_eq_true]
  intro y hy
  have : ¬ x.1.id = y.1.id := fun e => hn y hy e.symm
  simp [this]
 | some y =>
  obtain ⟨hy, hid⟩ := seek_some hs
  simp only []
  rw [Bool.eq_iff_iff, List.all_eq_true]
  constructor
  ·intro hp z hz
   by_cases he : x.1.id = z.1.id
   ·have : z = y := eq_of_kid hB hz hy (he.symm.trans hid.symm)
    subst this
    simp [he, hp]
   ·simp [he]
  ·intro h
   have := h y hy
   simpa [hid] using this
theorem sameF_eq {A B : List Kn} (hB : (B.map fun x => x.1.id).Nodup) : sameF A B = A.all (oneF B) := by
 unfold sameF
 congr 1
 funext x
 exact (oneF_eq hB x).symm
end Go.Proofs.YtgcmfpcgmkkobaaGreatDoor
