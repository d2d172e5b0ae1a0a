/-
 A tree edited at the node with an ID: the plain law behind evolve.at.
-/
import Derived.Test.YtgcmfpcgmkkobaaGreatDoorAt
set_option linter.unusedVariables false
set_option linter.unusedSimpArgs false
namespace Go.Proofs.YtgcmfpcgmkkobaaGreatDoor
open Go.RowKit

def Nd.withSub (n : Nd) (s : List Nd) : Nd := match n with | .mk i nm r k _ => .mk i nm r k s
mutual
/-- The group in which the ID stands becomes another. -/
def grpN (id : Int) (g : List Nd → List Nd) : Nd → Nd
 | .mk i n r k s => .mk i n r k (if (s.any fun c => decide (c.id = id)) = true then g s else grpL id g s)
def grpL (id : Int) (g : List Nd → List Nd) : List Nd → List Nd
 | [] => []
 | n :: ns => grpN id g n :: grpL id g ns
end
def grpT (id : Int) (g : List Nd → List Nd) (s : List Nd) : List Nd := if (s.any fun c => decide (c.id = id)) = true then g s else grpL id g s
theorem grpN_eq (id : Int) (g : List Nd → List Nd) (n : Nd) : grpN id g n = n.withSub (grpT id g n.sub) := by cases n; simp only [grpN, grpT, Nd.withSub, Nd.sub] <;> rfl
theorem grpL_eq (id : Int) (g : List Nd → List Nd) : ∀ l : List Nd, grpL id g l = l.map (grpN id g)
 | [] => rfl
 | n :: ns => by simp [grpL, grpL_eq id g ns]
theorem id_in_ids {c : Nd} : ∀ {l : List Nd}, c ∈ l → c.id ∈ idsL l
 | [], h => by cases h
 | x :: xs, h => by
  simp only [idsL, List.mem_append]
  rcases List.mem_cons.1 h with rfl | h
  ·left; cases c; simp [idsN, Nd.id]
  ·exact .inr (id_in_ids h)
theorem sub_in_ids {c : Nd} {x : Int} : ∀ {l : List Nd}, c ∈ l → x ∈ idsL c.sub → x ∈ idsL l
 | [], h, _ => by cases h
 | y :: ys, h, hx => by
  simp only [idsL, List.mem_append]
  rcases List.mem_cons.1 h with rfl | h
  ·left; cases c; simp only [idsN, List.mem_cons]; exact .inr hx
  ·exact .inr (sub_in_ids h hx)
theorem any_id {id : Int} {s : List Nd} : (s.any fun c => decide (c.id = id)) = true ↔ ∃ c ∈ s, c.id = id := by
 rw [List.any_eq_true]
 exact ⟨fun ⟨c, h1, h2⟩ => ⟨c, h1, of_decide_eq_true h2⟩, fun ⟨c, h1, h2⟩ => ⟨c, h1, decide_eq_true h2⟩⟩
mutual
theorem grpN_no (id : Int) (g : List Nd → List Nd) : ∀ n : Nd, id ∉ idsL n.sub → grpN id g n = n
 | .mk i nm r k s, h => by
  simp only [Nd.sub] at h
  have h1 : ¬ (s.any fun c => decide (c.id = id)) = true := fun e => by
   obtain ⟨c, hc, rfl⟩ := any_id.1 e
   exact h (id_in_ids hc)
  rw [grpN, if_neg h1, grpL_no id g s h]
theorem grpL_no (id : Int) (g : List Nd → List Nd) : ∀ l : List Nd, id ∉ idsL l → grpL id g l = l
 | [], _ => rfl
 | n :: ns, h => by
  simp only [idsL, List.mem_append, not_or] at h
  rw [grpL, grpN_no id g n (fun e => h.1 (by cases n; simp only [idsN, List.mem_cons, Nd.sub] at e ⊢; exact .inr e)), grpL_no id g ns h.2]
end
theorem nodup_mid {l1 l2 : List Nd} {c : Nd} (h : (idsL (l1 ++ c :: l2)).Nodup) : (idsN c).Nodup ∧ ∀ x ∈ idsN c, x ∉ idsL l1 ∧ x ∉ idsL l2 := by
 rw [idsL_append] at h
 simp only [idsL] at h
 rw [List.nodup_append, List.nodup_append] at h
 obtain ⟨h1, ⟨h2, h3, h4⟩, h5⟩ := h
 exact ⟨h2, fun x hx => ⟨fun e => h5 x e x (List.mem_append_left _ hx) rfl, fun e => h4 x hx x e rfl⟩⟩
theorem withSub_self (n : Nd) : n.withSub n.sub = n := by cases n; rfl
/-- What becomes of the tree when the group around an ID is another. -/
theorem holds_grp {id : Int} : ∀ {n h : Nd} {C : Nd → Nd}, Holds n h C → ∀ {j : Nat} {q : Nd}, h.sub[j]? = some q → q.id = id → (idsL n.sub).Nodup → (id ∈ idsL n.sub) ∧ ∀ g, C (h.withSub (g h.sub)) = n.withSub (grpT id g n.sub) := by
 intro n h C hH
 induction hH with
 | here n =>
  intro j q hq hid hn
  have hm := List.mem_of_getElem? hq
  refine ⟨hid ▸ id_in_ids hm, fun g => ?_⟩
  unfold grpT
  rw [if_pos (any_id.2 ⟨q, hm, hid⟩)]
 | down hj hH ih =>
  rename_i i nm r k s jj c hh C
  intro j q hq hid hn
  simp only [Nd.sub] at hn
  obtain ⟨l1, l2, rfl, rfl, hset⟩ := list_split hj
  obtain ⟨h1, h2⟩ := nodup_mid hn
  have hcn : (idsL c.sub).Nodup := by cases c; simp only [idsN, List.nodup_cons] at h1; exact h1.2
  obtain ⟨k1, k2⟩ := ih hq hid hcn
  have hidc : id ∈ idsN c := by cases c; simp only [idsN, List.mem_cons]; exact .inr k1
  have hcne : c.id ≠ id := fun e => by
   cases c
   simp only [idsN, List.nodup_cons, Nd.id, Nd.sub] at h1 e k1
   exact h1.1 (e ▸ k1)
  refine ⟨sub_in_ids (List.mem_append_right _ (List.mem_cons_self ..)) k1, fun g => ?_⟩
  have hno : ¬ ((l1 ++ c :: l2).any fun c => decide (c.id = id)) = true := fun e => by
   obtain ⟨x, hx, hxi⟩ := any_id.1 e
   rcases List.mem_append.1 hx with hx | hx
   ·exact (h2 id hidc).1 (hxi ▸ id_in_ids hx)
   ·rcases List.mem_cons.1 hx with rfl | hx
    ·exact hcne hxi
    ·exact (h2 id hidc).2 (hxi ▸ id_in_ids hx)
  show Nd.mk i nm r k ((l1 ++ c :: l2).set l1.length (C (hh.withSub (g hh.sub)))) = Nd.mk i nm r k (grpT id g (l1 ++ c :: l2))
  unfold grpT
  rw [if_neg hno, hset, k2 g, grpL_eq, List.map_append, List.map_cons, ← grpL_eq, ← grpL_eq, grpL_no id g l1 (h2 id hidc).1, grpL_no id g l2 (h2 id hidc).2, grpN_eq]
mutual
def fndN (id : Int) : Nd → Option Nd
 | .mk i n r k s => if i = id then some (.mk i n r k s) else fndL id s
def fndL (id : Int) : List Nd → Option Nd
 | [] => none
 | n :: ns => match fndN id n with
  | some x => some x
  | none => fndL id ns
end
mutual
theorem fndN_no (id : Int) : ∀ n : Nd, id ∉ idsN n → fndN id n = none
 | .mk i nm r k s, h => by
  simp only [idsN, List.mem_cons, not_or] at h
  rw [fndN, if_neg (fun e => h.1 e.symm), fndL_no id s h.2]
theorem fndL_no (id : Int) : ∀ l : List Nd, id ∉ idsL l → fndL id l = none
 | [], _ => rfl
 | n :: ns, h => by
  simp only [idsL, List.mem_append, not_or] at h
  rw [fndL, fndN_no id n h.1]
  exact fndL_no id ns h.2
end
theorem fndL_skip {id : Int} {c : Nd} (l2 : List Nd) : ∀ l1 : List Nd, id ∉ idsL l1 → fndL id (l1 ++ c :: l2) = match fndN id c with | some x => some x | none => fndL id l2
 | [], _ => rfl
 | n :: ns, h => by
  simp only [idsL, List.mem_append, not_or] at h
  rw [List.cons_append, fndL, fndN_no id n h.1]
  exact fndL_skip l2 ns h.2
theorem holds_fnd {id : Int} : ∀ {n h : Nd} {C : Nd → Nd}, Holds n h C → ∀ {j : Nat} {q : Nd}, h.sub[j]? = some q → q.id = id → (idsL n.sub).Nodup → fndL id n.sub = some q := by
 intro n h C hH
 induction hH with
 | here n =>
  intro j q hq hid hn
  obtain ⟨l1, l2, hs, rfl, _⟩ := list_split hq
  rw [hs] at hn ⊢
  obtain ⟨h1, h2⟩ := nodup_mid hn
  have hidq : id ∈ idsN q := by cases q; simp only [idsN, List.mem_cons]; exact .inl hid.symm
  rw [fndL_skip l2 l1 (h2 id hidq).1]
  cases q
  simp only [Nd.id] at hid
  rw [fndN, if_pos hid]
 | down hj hH ih =>
  rename_i i nm r k s jj c hh C
  intro j q hq hid hn
  simp only [Nd.sub] at hn ⊢
  have hk := (holds_grp hH hq hid (by
   obtain ⟨l1, l2, rfl, rfl, _⟩ := list_split hj
   have h1 := (nodup_mid hn).1
   cases c; simp only [idsN, List.nodup_cons] at h1; exact h1.2)).1
  obtain ⟨l1, l2, rfl, rfl, hset⟩ := list_split hj
  obtain ⟨h1, h2⟩ := nodup_mid hn
  have hcn : (idsL c.sub).Nodup := by cases c; simp only [idsN, List.nodup_cons] at h1; exact h1.2
  have hidc : id ∈ idsN c := by cases c; simp only [idsN, List.mem_cons]; exact .inr hk
  rw [fndL_skip l2 l1 (h2 id hidc).1]
  have h9 := ih hq hid hcn
  cases c
  simp only [idsN, List.nodup_cons, Nd.sub] at h1 hk h9
  rename_i ci cn cr ck cs
  rw [fndN, if_neg (fun e : ci = id => h1.1 (by rw [e]; exact hk)), h9]
/-- One node of a list becomes another. -/
def setId (id : Int) (f : Nd → Nd) (s : List Nd) : List Nd := s.map fun c => if c.id = id then f c else c
theorem setId_no {id : Int} {f : Nd → Nd} : ∀ {s : List Nd}, id ∉ idsL s → setId id f s = s
 | [], _ => rfl
 | n :: ns, h => by
  simp only [idsL, List.mem_append, not_or] at h
  have h1 : n.id ≠ id := fun e => h.1 (by cases n; simp only [idsN, List.mem_cons]; exact .inl e.symm)
  unfold setId
  rw [List.map_cons, if_neg h1]
  congr 1
  exact setId_no h.2
theorem setId_set {id : Int} {f : Nd → Nd} {s : List Nd} {j : Nat} {q : Nd} (hj : s[j]? = some q) (hid : q.id = id) (hn : (idsL s).Nodup) : setId id f s = s.set j (f q) := by
 obtain ⟨l1, l2, rfl, rfl, hset⟩ := list_split hj
 obtain ⟨h1, h2⟩ := nodup_mid hn
 have hidq : id ∈ idsN q := by cases q; simp only [idsN, List.mem_cons]; exact .inl hid.symm
 rw [hset]
 unfold setId
 rw [List.map_append, List.map_cons, if_pos hid]
 have e1 := setId_no (f := f) (h2 id hidq).1
 have e2 := setId_no (f := f) (h2 id hidq).2
 unfold setId at e1 e2
 rw [e1, e2]
/-- The holder's own list has no ID twice either. -/
theorem holds_nodup : ∀ {n h : Nd} {C : Nd → Nd}, Holds n h C → (idsL n.sub).Nodup → (idsL h.sub).Nodup := by
 intro n h C hH
 induction hH with
 | here n => exact id
 | down hj hH ih =>
  rename_i i nm r k s jj c hh C
  intro hn
  replace hn : (idsL s).Nodup := hn
  obtain ⟨l1, l2, rfl, rfl, _⟩ := list_split hj
  have h1 := (nodup_mid hn).1
  refine ih ?_
  cases c
  simp only [idsN, List.nodup_cons] at h1
  exact h1.2
end Go.Proofs.YtgcmfpcgmkkobaaGreatDoor
