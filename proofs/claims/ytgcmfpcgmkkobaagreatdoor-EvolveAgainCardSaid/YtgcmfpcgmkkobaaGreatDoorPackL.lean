/-
 The group around an ID, in plain words.
-/
import Derived.Test.YtgcmfpcgmkkobaaGreatDoorEditT
set_option linter.unusedVariables false
set_option linter.unusedSimpArgs false
namespace Go.Proofs.YtgcmfpcgmkkobaaGreatDoor
open Go.RowKit

mutual
theorem fndG_no (id : Int) : ∀ n : Nd, id ∉ idsL n.sub → fndG id n = none
 | .mk i nm r k s, h => by
  simp only [Nd.sub] at h
  have h1 : ¬ (s.any fun c => decide (c.id = id)) = true := fun e => by
   obtain ⟨c, hc, rfl⟩ := any_id.1 e
   exact h (id_in_ids hc)
  rw [fndG, if_neg h1, fndGL_no id s h]
theorem fndGL_no (id : Int) : ∀ l : List Nd, id ∉ idsL l → fndGL id l = none
 | [], _ => rfl
 | n :: ns, h => by
  simp only [idsL, List.mem_append, not_or] at h
  rw [fndGL, fndG_no id n (fun e => h.1 (by cases n; simp only [idsN, List.mem_cons, Nd.sub] at e ⊢; exact .inr e))]
  exact fndGL_no id ns h.2
end
theorem fndGL_skip {id : Int} {c : Nd} (l2 : List Nd) : ∀ l1 : List Nd, id ∉ idsL l1 → fndGL id (l1 ++ c :: l2) = match fndG id c with | some x => some x | none => fndGL id l2
 | [], _ => rfl
 | n :: ns, h => by
  simp only [idsL, List.mem_append, not_or] at h
  rw [List.cons_append, fndGL, fndG_no id n (fun e => h.1 (by cases n; simp only [idsN, List.mem_cons, Nd.sub] at e ⊢; exact .inr e))]
  exact fndGL_skip l2 ns h.2
theorem holds_fndG {id : Int} : ∀ {n h : Nd} {C : Nd → Nd}, Holds n h C → ∀ {j : Nat} {q : Nd}, h.sub[j]? = some q → q.id = id → (idsL n.sub).Nodup → fndG id n = some h.sub := by
 intro n h C hH
 induction hH with
 | here n =>
  intro j q hq hid hn
  have hm := List.mem_of_getElem? hq
  cases n
  simp only [Nd.sub] at hm ⊢
  rw [fndG, if_pos (any_id.2 ⟨q, hm, hid⟩)]
 | down hj hH ih =>
  rename_i i nm r k s jj c hh C
  intro j q hq hid hn
  simp only [Nd.sub] at hn
  have hk := (holds_grp hH hq hid (by
   obtain ⟨l1, l2, rfl, rfl, _⟩ := list_split hj
   have h1 := (nodup_mid hn).1
   cases c; simp only [idsN, List.nodup_cons] at h1; exact h1.2)).1
  obtain ⟨l1, l2, rfl, rfl, hset⟩ := list_split hj
  obtain ⟨h1, h2⟩ := nodup_mid hn
  have hcn : (idsL c.sub).Nodup := by cases c; simp only [idsN, List.nodup_cons] at h1; exact h1.2
  have hidc : id ∈ idsN c := by cases c; simp only [idsN, List.mem_cons]; exact .inr hk
  have hcne : c.id ≠ id := fun e => by
   cases c
   simp only [idsN, List.nodup_cons, Nd.id, Nd.sub] at h1 e hk
   exact h1.1 (e ▸ hk)
  have hno : ¬ ((l1 ++ c :: l2).any fun c => decide (c.id = id)) = true := fun e => by
   obtain ⟨x, hx, hxi⟩ := any_id.1 e
   rcases List.mem_append.1 hx with hx | hx
   ·exact (h2 id hidc).1 (hxi ▸ id_in_ids hx)
   ·rcases List.mem_cons.1 hx with rfl | hx
    ·exact hcne hxi
    ·exact (h2 id hidc).2 (hxi ▸ id_in_ids hx)
  rw [fndG, if_neg hno, fndGL_skip l2 l1 (h2 id hidc).1, ih hq hid hcn]
/-- The node moved within its group: cut out at j, put in at p. -/
theorem movTo_at {id : Int} {s : List Nd} {j : Nat} {q : Nd} (hj : s[j]? = some q) (hid : q.id = id) (hn : (idsL s).Nodup) (p : Nat) :
  ∃ l1 l2, s = l1 ++ q :: l2 ∧ l1.length = j ∧ (∀ x ∈ l1, x.id ≠ id) ∧ movTo id p s = (l1 ++ l2).take p ++ q :: (l1 ++ l2).drop p := by
 obtain ⟨l1, l2, rfl, rfl, hset⟩ := list_split hj
 obtain ⟨h1, h2⟩ := nodup_mid hn
 have hidq : id ∈ idsN q := by cases q; simp only [idsN, List.mem_cons]; exact .inl hid.symm
 have n1 : ∀ x ∈ l1, x.id ≠ id := fun x hx e => (h2 id hidq).1 (e ▸ id_in_ids hx)
 have n2 : ∀ x ∈ l2, x.id ≠ id := fun x hx e => (h2 id hidq).2 (e ▸ id_in_ids hx)
 refine ⟨l1, l2, rfl, rfl, n1, ?_⟩
 have hf : (l1 ++ q :: l2).find? (fun c => decide (c.id = id)) = some q := by
  rw [List.find?_append, List.find?_eq_none.2 (fun x hx => by simpa using n1 x hx)]
  simp [hid]
 have hfl : ((l1 ++ q :: l2).filter fun c => !decide (c.id = id)) = l1 ++ l2 := by
  rw [List.filter_append, List.filter_cons_of_neg (by simp [hid]), List.filter_eq_self.2 (fun x hx => by simpa using n1 x hx), List.filter_eq_self.2 (fun x hx => by simpa using n2 x hx)]
 unfold movTo
 rw [hf, hfl]
end Go.Proofs.YtgcmfpcgmkkobaaGreatDoor
