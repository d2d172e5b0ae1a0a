/-
  ProjectOf's answer against Project's: the plain law.; LeavesOf (each leaf by going up from it) against Leaves: the plain law.
-/
import Derived.Test.YtkchmgjmecojcaaGreatDoorFindLaw
import Derived.Test.YtkchmgjmecojcaaGreatDoorProj
import Derived.Test.YtkchmgjmecojcaaGreatDoorLeavesAll
set_option linter.unusedVariables false
set_option linter.unusedSimpArgs false
namespace Go.Proofs.YtkchmgjmecojcaaGreatDoor
open Go.RowKit
def Grp : Nd → Prop
 | .mk _ _ _ k s => k = 0 ↔ s ≠ []
def c3 (t : List Pl) : Int := ((t.filter (fun p => decide (p.n.rep = 3))).length : Int)
def c1 (t : List Pl) : Int := ((t.filter (fun p => !decide (p.n.rep = 1))).length : Int)
def wid (t : List Pl) : List Int := t.map (fun p => p.n.id)
def lfOf (x : Pl × List Pl) : List Lf := if x.1.n.kind = 0 then [] else [⟨x.1.n.id, x.1.n.kind, c3 x.2, c1 x.2, wid x.2⟩]
mutual
def wayN : Nd → Int → Int → Nat → List Pl → List (Pl × List Pl)
 | .mk i n r k s, d, a, at0, t => (⟨.mk i n r k s, d, a⟩, t ++ [⟨.mk i n r k s, d, a⟩]) :: wayL s (d + 1) at0 (at0 + 1) (t ++ [⟨.mk i n r k s, d, a⟩])
def wayL : List Nd → Int → Int → Nat → List Pl → List (Pl × List Pl)
 | [], _, _, _, _ => []
 | n :: ns, d, a, at0, t => wayN n d a at0 t ++ wayL ns d a (at0 + n.weigh) t
end
mutual
theorem way_fst : ∀ (n : Nd) (d a : Int) (at0 : Nat) (t : List Pl), (wayN n d a at0 t).map Prod.fst = fullN n d a at0
 | .mk i n r k s, d, a, at0, t => by simp only [wayN, fullN, List.map_cons, way_fstL s]
theorem way_fstL : ∀ (l : List Nd) (d a : Int) (at0 : Nat) (t : List Pl), (wayL l d a at0 t).map Prod.fst = fullL l d a at0
 | [], _, _, _, _ => rfl
 | n :: ns, d, a, at0, t => by simp only [wayL, fullL, List.map_append, way_fst n, way_fstL ns]
end
mutual
theorem way_len : ∀ (n : Nd) (d a : Int) (at0 : Nat) (t : List Pl), (wayN n d a at0 t).length = n.weigh
 | .mk i n r k s, d, a, at0, t => by simp only [wayN, Nd.weigh, List.length_cons, way_lenL s]; omega
theorem way_lenL : ∀ (l : List Nd) (d a : Int) (at0 : Nat) (t : List Pl), (wayL l d a at0 t).length = Nd.weighs l
 | [], _, _, _, _ => rfl
 | n :: ns, d, a, at0, t => by simp only [wayL, Nd.weighs, List.length_append, way_len n, way_lenL ns]
end
def Goes (W : List (Pl × List Pl)) (j : Nat) : Prop := ∃ (q : Pl) (t : List Pl) (b : Nat) (qb : Pl), W[j]? = some (q, t ++ [q]) ∧ q.around = (b : Int) ∧ b < j ∧ W[b]? = some (qb, t)
mutual
theorem goes_N (W : List (Pl × List Pl)) : ∀ (n : Nd) (d : Int) (b : Nat) (at0 : Nat) (t : List Pl) (qb : Pl), b < at0 → W[b]? = some (qb, t) → (∀ x, x < n.weigh → W[at0 + x]? = (wayN n d b at0 t)[x]?) →
  ∀ j, at0 ≤ j → j < at0 + n.weigh → Goes W j
 | .mk i n r k s, d, b, at0, t, qb, hb, hW, hx, j, h1, h2 => by
  simp only [Nd.weigh] at hx h2
  have h0 := hx 0 (by omega)
  simp only [wayN, List.getElem?_cons_zero, Nat.add_zero] at h0
  by_cases hj : j = at0
  ·subst hj
   exact ⟨_, t, b, qb, h0, rfl, hb, hW⟩
  ·refine goes_L W s (d + 1) at0 (at0 + 1) _ _ (by omega) h0 (fun x hxs => ?_) j (by omega) (by omega)
   have := hx (x + 1) (by omega)
   simp only [wayN, List.getElem?_cons_succ] at this
   rw [← this]
   congr 1
   omega
theorem goes_L (W : List (Pl × List Pl)) : ∀ (l : List Nd) (d : Int) (b : Nat) (at0 : Nat) (t : List Pl) (qb : Pl), b < at0 → W[b]? = some (qb, t) → (∀ x, x < Nd.weighs l → W[at0 + x]? = (wayL l d b at0 t)[x]?) →
  ∀ j, at0 ≤ j → j < at0 + Nd.weighs l → Goes W j
 | [], d, b, at0, t, qb, hb, hW, hx, j, h1, h2 => by simp only [Nd.weighs] at h2; omega
 | n :: ns, d, b, at0, t, qb, hb, hW, hx, j, h1, h2 => by
  simp only [Nd.weighs] at hx h2
  have hl := way_len n d b at0 t
  by_cases hj : j < at0 + n.weigh
  ·refine goes_N W n d b at0 t qb hb hW (fun x hxn => ?_) j h1 hj
   rw [hx x (by omega)]
   simp only [wayL]
   rw [List.getElem?_append_left (by omega)]
  ·refine goes_L W ns d b (at0 + n.weigh) t qb (by omega) hW (fun x hxn => ?_) j (by omega) (by omega)
   have := hx (n.weigh + x) (by omega)
   simp only [wayL] at this
   rw [List.getElem?_append_right (by omega), hl, Nat.add_sub_cancel_left] at this
   rw [← this]
   congr 1
   omega
end
def waysOf (nd : Nd) : List (Pl × List Pl) := (⟨nd, 1, -1⟩, []) :: wayL nd.sub 2 0 1 []
theorem ways_fst (nd : Nd) : (waysOf nd).map Prod.fst = fullN nd 1 (-1) 0 := by
 obtain ⟨i, n, r, k, s⟩ := nd
 simp only [waysOf, List.map_cons, fullN, Nd.sub, way_fstL]
 rfl
theorem ways_goes (nd : Nd) (j : Nat) (h0 : 0 < j) (h : j < (waysOf nd).length) : Goes (waysOf nd) j := by
 simp only [waysOf, List.length_cons, way_lenL] at h
 refine goes_L (waysOf nd) nd.sub 2 0 1 [] ⟨nd, 1, -1⟩ (by omega) rfl (fun x hx => ?_) j (by omega) (by omega)
 rw [Nat.add_comm]
 rfl
theorem c3_snoc (t : List Pl) (p : Pl) : c3 (t ++ [p]) = if p.n.rep = 3 then c3 t + 1 else c3 t := by
 unfold c3
 rw [List.filter_append]
 by_cases h : p.n.rep = 3 <;> simp [h]
theorem c1_snoc (t : List Pl) (p : Pl) : c1 (t ++ [p]) = if p.n.rep = 1 then c1 t else c1 t + 1 := by
 unfold c1
 rw [List.filter_append]
 by_cases h : p.n.rep = 1 <;> simp [h]
theorem c3_cons (t : List Pl) (p : Pl) : c3 (p :: t) = if p.n.rep = 3 then c3 t + 1 else c3 t := by
 unfold c3
 by_cases h : p.n.rep = 3 <;> simp [h]
theorem c1_cons (t : List Pl) (p : Pl) : c1 (p :: t) = if p.n.rep = 1 then c1 t else c1 t + 1 := by
 unfold c1
 by_cases h : p.n.rep = 1 <;> simp [h]
theorem wid_snoc (t : List Pl) (p : Pl) : wid (t ++ [p]) = wid t ++ [p.n.id] := by unfold wid; rw [List.map_append]; rfl
theorem c3_len (t : List Pl) : 0 ≤ c3 t ∧ c3 t ≤ t.length := by
 unfold c3
 have := List.length_filter_le (fun p : Pl => decide (p.n.rep = 3)) t
 omega
theorem c1_len (t : List Pl) : 0 ≤ c1 t ∧ c1 t ≤ t.length := by
 unfold c1
 have := List.length_filter_le (fun p : Pl => !decide (p.n.rep = 1)) t
 omega
mutual
theorem way_lf : ∀ (n : Nd) (d a : Int) (at0 : Nat) (t : List Pl), n.All Grp → (wayN n d a at0 t).flatMap lfOf = lvN (c3 t) (c1 t) (wid t) n
 | .mk i n r k s, d, a, at0, t, h => by
  have hg : k = 0 ↔ s ≠ [] := h.1
  simp only [wayN, lvN, List.flatMap_cons]
  by_cases hk : k = 0
  ·rw [if_pos hk, way_lfL s (d + 1) at0 (at0 + 1) _ h.2, c3_snoc, c1_snoc, wid_snoc]
   simp only [Nd.rep, Nd.id]
   have : lfOf (⟨.mk i n r k s, d, a⟩, t ++ [⟨.mk i n r k s, d, a⟩]) = [] := by unfold lfOf; rw [if_pos (by exact hk)]
   rw [this]
   rfl
  ·rw [if_neg hk]
   have hs : s = [] := by
    cases s with
    | nil => rfl
    | cons x xs => exact absurd (hg.2 (by simp)) hk
   subst hs
   have : lfOf (⟨.mk i n r k [], d, a⟩, t ++ [⟨.mk i n r k [], d, a⟩]) = [⟨i, k, c3 (t ++ [⟨.mk i n r k [], d, a⟩]), c1 (t ++ [⟨.mk i n r k [], d, a⟩]), wid (t ++ [⟨.mk i n r k [], d, a⟩])⟩] := by unfold lfOf; rw [if_neg (by exact hk)]; rfl
   rw [this, c3_snoc, c1_snoc, wid_snoc]
   simp only [wayL, List.flatMap_nil, List.append_nil, Nd.rep, Nd.id]
   rfl
theorem way_lfL : ∀ (l : List Nd) (d a : Int) (at0 : Nat) (t : List Pl), Nd.Alls Grp l → (wayL l d a at0 t).flatMap lfOf = lvL (c3 t) (c1 t) (wid t) l
 | [], _, _, _, _, _ => rfl
 | n :: ns, d, a, at0, t, h => by simp only [wayL, lvL, List.flatMap_append, way_lf n d a at0 t h.1, way_lfL ns d a _ t h.2]
end
def leavesRef (nd : Nd) : List Lf := ((waysOf nd).drop 1).flatMap lfOf
theorem leavesRef_law {nd : Nd} (h : Nd.Alls Grp nd.sub) : leavesRef nd = lvL 0 0 [] nd.sub := by
 unfold leavesRef waysOf
 exact way_lfL nd.sub 2 0 1 [] h
end Go.Proofs.YtkchmgjmecojcaaGreatDoor
