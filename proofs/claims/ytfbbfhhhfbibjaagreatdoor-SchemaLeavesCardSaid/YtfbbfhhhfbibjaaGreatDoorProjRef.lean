/-
  ProjectOf's answer is Project's: the plain law, joined.
-/
import Derived.Test.YtfbbfhhhfbibjaaGreatDoorPackI
set_option linter.unusedVariables false
set_option linter.unusedSimpArgs false
namespace Go.Proofs.YtfbbfhhhfbibjaaGreatDoor
open Go.RowKit

mutual
theorem alls_imp1 {P Q : Nd → Prop} (h : ∀ n, P n → Q n) : ∀ n : Nd, n.All P → n.All Q
  | .mk i nm r k s, hp => ⟨h _ hp.1, alls_impL h s hp.2⟩
theorem alls_impL {P Q : Nd → Prop} (h : ∀ n, P n → Q n) : ∀ l : List Nd, Nd.Alls P l → Nd.Alls Q l
  | [], _ => trivial
  | n :: ns, hp => ⟨alls_imp1 h n hp.1, alls_impL h ns hp.2⟩
end
mutual
theorem cov_full (ids : List Int) (x : Int) : ∀ (n : Nd) (d a : Int) (at0 : Nat), covN ids x n ↔ ∃ p ∈ fullN n d a at0, p.n.id ∈ ids ∧ x ∈ lfN p.n
  | .mk i nm r k s, d, a, at0 => by
    simp only [covN, fullN]
    rw [cov_fullL ids x s (d + 1) at0 (at0 + 1)]
    constructor
    · rintro (h | ⟨p, h1, h2⟩)
      · exact ⟨_, List.mem_cons_self .., h⟩
      · exact ⟨p, List.mem_cons_of_mem _ h1, h2⟩
    · rintro ⟨p, h1, h2⟩
      rcases List.mem_cons.1 h1 with rfl | h1
      · exact .inl h2
      · exact .inr ⟨p, h1, h2⟩
theorem cov_fullL (ids : List Int) (x : Int) : ∀ (l : List Nd) (d a : Int) (at0 : Nat), covL ids x l ↔ ∃ p ∈ fullL l d a at0, p.n.id ∈ ids ∧ x ∈ lfN p.n
  | [], d, a, at0 => by simp [covL, fullL]
  | n :: ns, d, a, at0 => by
    simp only [covL, fullL]
    rw [cov_full ids x n d a at0, cov_fullL ids x ns d a (at0 + n.weigh)]
    constructor
    · rintro (⟨p, h1, h2⟩ | ⟨p, h1, h2⟩)
      · exact ⟨p, List.mem_append_left _ h1, h2⟩
      · exact ⟨p, List.mem_append_right _ h1, h2⟩
    · rintro ⟨p, h1, h2⟩
      exact (List.mem_append.1 h1).elim (fun h => .inl ⟨p, h, h2⟩) (fun h => .inr ⟨p, h, h2⟩)
end
mutual
theorem ids_full : ∀ (n : Nd) (d a : Int) (at0 : Nat), (fullN n d a at0).map (fun p => p.n.id) = idsN n
  | .mk i nm r k s, d, a, at0 => by
    simp only [fullN, idsN, List.map_cons]
    rw [ids_fullL s]
    rfl
theorem ids_fullL : ∀ (l : List Nd) (d a : Int) (at0 : Nat), (fullL l d a at0).map (fun p => p.n.id) = idsL l
  | [], d, a, at0 => rfl
  | n :: ns, d, a, at0 => by
    simp only [fullL, idsL, List.map_append]
    rw [ids_full n, ids_fullL ns]
end
theorem mem_unique {α β : Type} {f : α → β} : ∀ {l : List α} {a b : α}, (l.map f).Nodup → a ∈ l → b ∈ l → f a = f b → a = b
  | [], _, _, _, h, _, _ => by cases h
  | x :: xs, a, b, hn, ha, hb, e => by
    simp only [List.map_cons, List.nodup_cons] at hn
    rcases List.mem_cons.1 ha with ea | ha'
    · rcases List.mem_cons.1 hb with eb | hb'
      · rw [ea, eb]
      · subst ea
        exact absurd (e ▸ List.mem_map_of_mem hb') hn.1
    · rcases List.mem_cons.1 hb with eb | hb'
      · subst eb
        exact absurd (e ▸ List.mem_map_of_mem ha') hn.1
      · exact mem_unique hn.2 ha' hb' e

def lvOf (nd : Nd) (id : Int) : List Int := match findP id (flatOf nd) with
  | some p => underL (flatOf p.n)
  | none => []
/-- ProjectOf's answer. -/
def projRef (nd : Nd) (ids : List Int) : PJ :=
  bif ids.any (fun i => (findP i (flatOf nd)).isNone) then .non
  else bif (ids.flatMap (lvOf nd)).isEmpty then .er .shape
  else .ok (keepN (ids.flatMap (lvOf nd)) nd)

theorem projRef_law {nd : Nd} {ids : List Int} (hok : nd.ok) (hv : validF nd = none) : projectF nd ids = projRef nd ids := by
  have hS := schema_of_valid hv
  have hF := fit_of hv
  have hL := flat_valid hv
  have hfind : ∀ i, findF nd i = (findP i (flatOf nd)).map Pl.n := fun i => findF_full hL i
  have hany : ids.any (fun i => (findF nd i).isNone) = ids.any (fun i => (findP i (flatOf nd)).isNone) := by
    congr 1
    funext i
    rw [hfind i, Option.isNone_map]
  unfold projectF projRef
  rw [hv]
  simp only
  rw [hany]
  cases ha : ids.any (fun i => (findP i (flatOf nd)).isNone) with
  | true => rfl
  | false =>
    simp only [cond_false]
    have hsmall := all_small 6 40 nd hok hS.high hS.small
    rw [← fullN_P nd 1 (-1) 0, ← hL] at hsmall
    obtain ⟨i, nm, r, k, sb⟩ := nd
    have hroot := hS.root
    simp only [Nd.mk.injEq, Nd.sub, and_true] at hroot
    obtain ⟨rfl, rfl, rfl, rfl⟩ := hroot
    simp only [Nd.sub] at hF
    have hnd : (idsN (.mk 0 rootName 1 0 sb)).Nodup := by
      simp only [idsN]
      exact List.nodup_cons.2 ⟨fun h => by have := hF.range 0 h; omega, hF.nodup⟩
    have hG : Nd.All Grp (.mk 0 rootName 1 0 sb) := by
      refine ⟨⟨fun _ => hF.ne, fun _ => rfl⟩, alls_impL (fun n hn => ?_) sb hF.nodes⟩
      obtain ⟨i, nm, r, k, s⟩ := n
      simp only [v3F, Nd.rep, Nd.kind, Nd.sub, Bool.and_eq_true, beq_iff_eq] at hn
      have h5 := hn.2
      show k = 0 ↔ s ≠ []
      constructor
      · rintro rfl rfl
        simp at h5
      · intro hne
        cases s with
        | nil => exact absurd rfl hne
        | cons a b =>
          simp only [List.isEmpty_cons, Bool.not_eq_false', decide_eq_true_eq] at h5
          exact of_decide_eq_true h5
    have hx : ∀ x, x ∈ ids.flatMap (lvOf (.mk 0 rootName 1 0 sb)) ↔ covN ids x (.mk 0 rootName 1 0 sb) := fun x => by
      rw [cov_full ids x _ 1 (-1) 0, ← hL, List.mem_flatMap]
      have hun : ∀ p ∈ flatOf (.mk 0 rootName 1 0 sb), underL (flatOf p.n) = lfN p.n := fun p hp => under_lf (by have := (hsmall p hp).2.1; omega) (by have := (hsmall p hp).2.2; omega)
      constructor
      · rintro ⟨id, hid, hm⟩
        unfold lvOf at hm
        cases hf : findP id (flatOf (.mk 0 rootName 1 0 sb)) with
        | none => rw [hf] at hm; cases hm
        | some p =>
          rw [hf] at hm
          simp only at hm
          have h1 := List.mem_of_find?_eq_some hf
          have h2 := List.find?_some hf
          rw [hun p h1] at hm
          exact ⟨p, h1, by rw [of_decide_eq_true h2]; exact hid, hm⟩
      · rintro ⟨p, hp, hid, hm⟩
        refine ⟨p.n.id, hid, ?_⟩
        unfold lvOf
        cases hf : findP p.n.id (flatOf (.mk 0 rootName 1 0 sb)) with
        | none =>
          have := List.find?_eq_none.1 hf p hp
          simp at this
        | some q =>
          have h1 := List.mem_of_find?_eq_some hf
          have h2a := List.find?_some hf
          have h2 := of_decide_eq_true h2a
          have e : q = p := mem_unique (f := fun p => p.n.id) (by rw [hL, ids_full]; exact hnd) h1 hp h2
          subst e
          simp only
          rw [hun q hp]
          exact hm
    have hk := keep_proj (ids.flatMap (lvOf (.mk 0 rootName 1 0 sb))) ids (.mk 0 rootName 1 0 sb) hG hnd (fun x _ => hx x)
    generalize ids.flatMap (lvOf (.mk 0 rootName 1 0 sb)) = L at hx hk
    have hLe : L.isEmpty = !(lfN (.mk 0 rootName 1 0 sb)).any (has L) := by
      cases L with
      | nil =>
        have : (lfN (.mk 0 rootName 1 0 sb)).any (has []) = false := by
          rw [List.any_eq_false]; intro x _ h; simp [has] at h
        rw [this]; rfl
      | cons y ys =>
        have : (lfN (.mk 0 rootName 1 0 sb)).any (has (y :: ys)) = true :=
          List.any_eq_true.2 ⟨y, cov_lf ids y _ ((hx y).1 (List.mem_cons_self ..)), has_of_mem (List.mem_cons_self ..)⟩
        rw [this]; rfl
    simp only [Nd.sub, Nd.id, Nd.name, Nd.rep, Nd.kind]
    rcases projN_cases ids 0 rootName 1 0 sb with ⟨h1, e⟩ | ⟨h1, h2, e⟩ | ⟨h1, h2, e⟩
    · have hs : subOf ids sb = sb := by unfold subOf; rw [if_pos ((has_iff _ _).2 h1)]
      rw [e] at hk
      cases hb : (lfN (.mk 0 rootName 1 0 sb)).any (has L) with
      | false => rw [hb, if_neg Bool.false_ne_true] at hk; cases hk
      | true =>
        rw [hb, if_pos rfl] at hk
        rw [hLe, hb, hs]
        have h9 : sb.isEmpty = false := by
          cases sb with
          | nil => exact absurd rfl hF.ne
          | cons _ _ => rfl
        rw [h9]
        simp only [Bool.not_true, cond_false]
        rw [(List.cons.inj hk).1.symm]
    · have hs : subOf ids sb = [] := by unfold subOf; rw [if_neg (fun h => h1 ((has_iff _ _).1 h)), h2]
      rw [e] at hk
      cases hb : (lfN (.mk 0 rootName 1 0 sb)).any (has L) with
      | true => rw [hb, if_pos rfl] at hk; cases hk
      | false =>
        rw [hLe, hb, hs]
        rfl
    · have hs : subOf ids sb = projL ids sb := by unfold subOf; rw [if_neg (fun h => h1 ((has_iff _ _).1 h))]
      rw [e] at hk
      cases hb : (lfN (.mk 0 rootName 1 0 sb)).any (has L) with
      | false => rw [hb, if_neg Bool.false_ne_true] at hk; cases hk
      | true =>
        rw [hb, if_pos rfl] at hk
        rw [hLe, hb, hs]
        have h9 : (projL ids sb).isEmpty = false := by
          cases hq : projL ids sb with
          | nil => exact absurd hq h2
          | cons _ _ => rfl
        rw [h9]
        simp only [Bool.not_true, cond_false]
        rw [(List.cons.inj hk).1.symm]
end Go.Proofs.YtfbbfhhhfbibjaaGreatDoor
