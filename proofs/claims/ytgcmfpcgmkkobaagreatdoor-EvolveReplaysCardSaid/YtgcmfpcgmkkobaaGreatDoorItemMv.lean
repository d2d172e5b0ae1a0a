/-
  The document's items against the tree: who stands around whom, in order.; What edits of the tree do to the lists around numbers.; Edits on items against the tree: move, add.; The document's become: a log takes what comes, if it is right.
-/
import Derived.Test.YtgcmfpcgmkkobaaGreatDoorReplayLaw
import Derived.Test.YtgcmfpcgmkkobaaGreatDoorWordsLaw
import Derived.Test.YtgcmfpcgmkkobaaGreatDoorWoR
import Derived.Test.YtgcmfpcgmkkobaaGreatDoorSchErr
import Derived.Test.YtgcmfpcgmkkobaaGreatDoorAddT
set_option linter.unusedVariables false
set_option maxHeartbeats 20000000
set_option maxRecDepth 100000
set_option linter.unusedSimpArgs false
namespace Go.Proofs.YtgcmfpcgmkkobaaGreatDoor
open Go.RowKit
def Nd.bare : Nd → Nd | .mk i n r k _ => .mk i n r k []
theorem bare_id (n : Nd) : n.bare.id = n.id := by cases n; rfl
theorem bare_kind (n : Nd) : n.bare.kind = n.kind := by cases n; rfl
def itm (p : Int) (n : Nd) : It := ⟨n.bare, p⟩
def kidsT (p : Int) (l : List Nd) : List Nd := if p = 0 then l else match fndL p l with
 | some n => n.sub
 | none => []
def Rep (its : List It) (l : List Nd) : Prop := ∀ p, its.filter (arB p) = (kidsT p l).map (itm p)
theorem kids_zero (l : List Nd) : kidsT 0 l = l := if_pos rfl
theorem kids_some {p : Int} {l : List Nd} {n : Nd} (hp : p ≠ 0) (h : fndL p l = some n) : kidsT p l = n.sub := by
 unfold kidsT
 rw [if_neg hp, h]
theorem kids_none {p : Int} {l : List Nd} (hp : p ≠ 0) (h : fndL p l = none) : kidsT p l = [] := by
 unfold kidsT
 rw [if_neg hp, h]
mutual
theorem fndN_id (id : Int) : ∀ (n q : Nd), fndN id n = some q → q.id = id
 | .mk i nm r k s, q, h => by
  rw [fndN] at h
  split at h
  ·rename_i e
   cases h
   exact e
  ·exact fndL_id id s q h
theorem fndL_id (id : Int) : ∀ (l : List Nd) (q : Nd), fndL id l = some q → q.id = id
 | [], q, h => by cases h
 | n :: ns, q, h => by
  rw [fndL] at h
  split at h
  ·rename_i x hx
   cases h
   exact fndN_id id n _ hx
  ·exact fndL_id id ns q h
end
mutual
theorem fndN_mem (id : Int) : ∀ n : Nd, id ∈ idsN n → ∃ q, fndN id n = some q
 | .mk i nm r k s, h => by
  rw [fndN]
  by_cases e : i = id
  ·exact ⟨_, if_pos e⟩
  ·rw [if_neg e]
   simp only [idsN, List.mem_cons] at h
   exact fndL_mem id s (h.resolve_left (fun h => e h.symm))
theorem fndL_mem (id : Int) : ∀ l : List Nd, id ∈ idsL l → ∃ q, fndL id l = some q
 | [], h => by simp [idsL] at h
 | n :: ns, h => by
  rw [fndL]
  simp only [idsL, List.mem_append] at h
  by_cases hn : id ∈ idsN n
  ·obtain ⟨q, hq⟩ := fndN_mem id n hn
   exact ⟨q, by rw [hq]⟩
  ·rw [fndN_no id n hn]
   exact fndL_mem id ns (h.resolve_left hn)
end
theorem fndL_iff {id : Int} {l : List Nd} : id ∈ idsL l ↔ ∃ q, fndL id l = some q :=
 ⟨fndL_mem id l, fun ⟨q, h⟩ => Classical.byContradiction fun hn => by rw [fndL_no id l hn] at h; cases h⟩
theorem fnd_head {l : List Nd} (hn : (idsL l).Nodup) {n : Nd} (h : n ∈ l) : fndL n.id l = some n := by
 obtain ⟨l1, l2, rfl⟩ := List.append_of_mem h
 obtain ⟨h1, h2⟩ := nodup_mid hn
 have hi : n.id ∈ idsN n := by cases n; simp [idsN, Nd.id]
 rw [fndL_skip l2 l1 (h2 _ hi).1]
 obtain ⟨i, nm, r, k, s⟩ := n
 have e : fndN i (.mk i nm r k s) = some (.mk i nm r k s) := by rw [fndN, if_pos rfl]
 simp only [Nd.id]
 rw [e]
mutual
theorem fnd_subN {p : Int} : ∀ (m q : Nd), (idsN m).Nodup → fndN p m = some q → ∀ n ∈ q.sub, fndN n.id m = some n ∧ n.id ∈ idsN m
 | .mk i nm r k s, q, hn, h, n, hns => by
  rw [fndN] at h
  simp only [idsN, List.nodup_cons] at hn
  have key : fndL n.id s = some n → fndN n.id (.mk i nm r k s) = some n ∧ n.id ∈ idsN (.mk i nm r k s) := fun hk => by
   have hm := fndL_iff.2 ⟨n, hk⟩
   refine ⟨?_, by simp only [idsN, List.mem_cons]; exact .inr hm⟩
   rw [fndN, if_neg (fun e => hn.1 (by rw [e]; exact hm)), hk]
  split at h
  ·cases h
   exact key (fnd_head hn.2 hns)
  ·exact key (fnd_subL s q hn.2 h n hns).1
theorem fnd_subL {p : Int} : ∀ (l : List Nd) (q : Nd), (idsL l).Nodup → fndL p l = some q → ∀ n ∈ q.sub, fndL n.id l = some n ∧ n.id ∈ idsL l
 | [], q, hn, h, n, hns => by cases h
 | m :: ms, q, hn, h, n, hns => by
  simp only [idsL] at hn
  rw [List.nodup_append] at hn
  rw [fndL] at h
  split at h
  ·rename_i x hx
   cases h
   obtain ⟨h1, h2⟩ := fnd_subN m _ hn.1 hx n hns
   refine ⟨by rw [fndL, h1], by simp only [idsL, List.mem_append]; exact .inl h2⟩
  ·obtain ⟨h1, h2⟩ := fnd_subL ms q hn.2.1 h n hns
   refine ⟨?_, by simp only [idsL, List.mem_append]; exact .inr h2⟩
   rw [fndL, fndN_no n.id m (fun e => hn.2.2 _ e _ h2 rfl)]
   exact h1
end
theorem kids_fnd {l : List Nd} (hn : (idsL l).Nodup) {p : Int} {n : Nd} (h : n ∈ kidsT p l) : fndL n.id l = some n := by
 unfold kidsT at h
 split at h
 ·exact fnd_head hn h
 ·split at h
  ·rename_i q hq
   exact (fnd_subL l q hn hq n h).1
  ·cases h
theorem under_rep {its : List It} {l : List Nd} {m : Int} (h : Rep its l) (hn : (idsL l).Nodup) (hA : Nd.Alls (fun n => n.kind ≠ 0 → n.sub = []) l) (hg : Grow its m) : ∀ (k : Nat) (p : Int), m ≤ p + k → (p = 0 ∨ p ∈ idsL l) → underF its k p = kidsT p l
 | 0, p, hk, hp => by
  have he : its.filter (arB p) = [] := by
   rw [List.filter_eq_nil_iff]
   intro x hx e
   have e : x.ar = p := of_decide_eq_true e
   have := hg.up x hx
   have := hg.le x hx
   omega
  have := h p
  rw [he] at this
  rw [underF]
  exact (List.map_eq_nil_iff.1 this.symm).symm
 | k + 1, p, hk, hp => by
  rw [underF, h p, List.map_map]
  refine (List.map_congr_left (g := id) fun n hnk => ?_).trans (List.map_id _)
  have hf := kids_fnd hn hnk
  have hx : itm p n ∈ its := by
   have : itm p n ∈ its.filter (arB p) := by rw [h p]; exact List.mem_map_of_mem hnk
   exact (List.mem_filter.1 this).1
  have hup := (hg.up _ hx).2
  have hup0 := (hg.up _ hx).1
  simp only [itm, bare_id] at hup hup0
  have ih := under_rep h hn hA hg k n.id (by omega) (.inr (fndL_iff.2 ⟨n, hf⟩))
  rw [kids_some (by omega) hf] at ih
  have hk0 := fnd_all hA hf
  obtain ⟨i, nm, r, kd, s⟩ := n
  simp only [Function.comp, itm, Nd.bare, Nd.id, Nd.name, Nd.rep, Nd.kind, Nd.sub, id] at ih hk0 ⊢
  by_cases hkd : kd = 0
  ·exact congrArg (Nd.mk i nm r kd) ((if_pos hkd).trans ih)
  ·exact congrArg (Nd.mk i nm r kd) ((if_neg hkd).trans (hk0 hkd).symm)
where
 fnd_all {P : Nd → Prop} {id : Int} {l : List Nd} {n : Nd} (hA : Nd.Alls P l) (h : fndL id l = some n) : P n := by
  have key : ∀ l : List Nd, Nd.Alls P l → fndL id l = some n → P n := by
   intro l
   refine Nd.rec_1 (motive_1 := fun m => m.All P → fndN id m = some n → P n) (motive_2 := fun l => Nd.Alls P l → fndL id l = some n → P n) ?_ ?_ ?_ l
   ·intro i nm r k s ih hA h
    rw [fndN] at h
    split at h
    ·cases h; exact hA.1
    ·exact ih hA.2 h
   ·intro _ h; cases h
   ·intro m ms h1 h2 hA h
    rw [fndL] at h
    split at h
    ·rename_i x hx
     cases h
     exact h1 hA.1 hx
    ·exact h2 hA.2 h
  exact key l hA h
theorem rep_mem {its : List It} {l : List Nd} (h : Rep its l) {x : It} : x ∈ its ↔ ∃ n ∈ kidsT x.ar l, x = itm x.ar n := by
 have h1 : x ∈ its ↔ x ∈ its.filter (arB x.ar) := by
  rw [List.mem_filter]
  exact ⟨fun hx => ⟨hx, decide_eq_true rfl⟩, fun hx => hx.1⟩
 rw [h1, h x.ar, List.mem_map]
 exact ⟨fun ⟨n, h1, h2⟩ => ⟨n, h1, h2.symm⟩, fun ⟨n, h1, h2⟩ => ⟨n, h1, h2.symm⟩⟩
theorem item_fnd {its : List It} {l : List Nd} (h : Rep its l) (hn : (idsL l).Nodup) {x : It} (hx : x ∈ its) : ∃ n, fndL x.n.id l = some n ∧ x.n = n.bare ∧ n ∈ kidsT x.ar l := by
 obtain ⟨n, h1, h2⟩ := (rep_mem h).1 hx
 have h3 : x.n = n.bare := by rw [h2]; rfl
 refine ⟨n, ?_, h3, h1⟩
 rw [h3, bare_id]
 exact kids_fnd hn h1
mutual
theorem parN {id : Int} : ∀ m : Nd, (idsN m).Nodup → id ∈ idsN m → m.id = id ∨ ∃ p q n, fndN p m = some q ∧ n ∈ q.sub ∧ n.id = id
 | .mk i nm r k s, hn, h => by
  simp only [idsN, List.nodup_cons] at hn
  simp only [idsN, List.mem_cons] at h
  rcases h with rfl | h
  ·exact .inl rfl
  ·right
   rcases parL s hn.2 h with ⟨n, h1, h2⟩ | ⟨p, q, n, h1, h2, h3⟩
   ·exact ⟨i, .mk i nm r k s, n, by rw [fndN, if_pos rfl], h1, h2⟩
   ·refine ⟨p, q, n, ?_, h2, h3⟩
    have hp := fndL_iff.2 ⟨q, h1⟩
    rw [fndN, if_neg (fun e => hn.1 (by rw [e]; exact hp))]
    exact h1
theorem parL {id : Int} : ∀ l : List Nd, (idsL l).Nodup → id ∈ idsL l → (∃ n ∈ l, n.id = id) ∨ ∃ p q n, fndL p l = some q ∧ n ∈ q.sub ∧ n.id = id
 | [], _, h => by simp [idsL] at h
 | m :: ms, hn, h => by
  simp only [idsL] at hn h
  rw [List.nodup_append] at hn
  rcases List.mem_append.1 h with h | h
  ·rcases parN m hn.1 h with h1 | ⟨p, q, n, h1, h2, h3⟩
   ·exact .inl ⟨m, List.mem_cons_self .., h1⟩
   ·exact .inr ⟨p, q, n, by rw [fndL, h1], h2, h3⟩
  ·rcases parL ms hn.2.1 h with ⟨n, h1, h2⟩ | ⟨p, q, n, h1, h2, h3⟩
   ·exact .inl ⟨n, List.mem_cons_of_mem _ h1, h2⟩
   ·refine .inr ⟨p, q, n, ?_, h2, h3⟩
    have hp := fndL_iff.2 ⟨q, h1⟩
    rw [fndL, fndN_no p m (fun e => hn.2.2 _ e _ hp rfl)]
    exact h1
end
structure Numb (l : List Nd) : Prop where
 nodup : (idsL l).Nodup
 pos : ∀ x ∈ idsL l, 1 ≤ x
theorem numb_nil : Numb [] := ⟨by simp [idsL], fun x hx => by simp [idsL] at hx⟩
theorem par_of {l : List Nd} (h : Numb l) {id : Int} (hid : id ∈ idsL l) : ∃ p, (p = 0 ∨ p ∈ idsL l) ∧ ∃ n ∈ kidsT p l, n.id = id := by
 rcases parL l h.nodup hid with ⟨n, h1, h2⟩ | ⟨p, q, n, h1, h2, h3⟩
 ·exact ⟨0, .inl rfl, n, by rw [kids_zero]; exact h1, h2⟩
 ·have hp := fndL_iff.2 ⟨q, h1⟩
  exact ⟨p, .inr hp, n, by rw [kids_some (by have := h.pos p hp; omega) h1]; exact h2, h3⟩
theorem at_law {its : List It} {l : List Nd} (h : Rep its l) (hl : Numb l) {id r : Int} (hat : AtSpec its id r) :
  (fndL id l = none ∧ r = -1) ∨ ∃ (q : Nd) (j : Nat) (x : It), fndL id l = some q ∧ r = (j : Nat) ∧ its[j]? = some x ∧ x.n = q.bare ∧ x.n.id = id ∧ q ∈ kidsT x.ar l ∧ q.id = id := by
 rcases hat with ⟨j, x, rfl, hj, hid, _⟩ | ⟨rfl, hno⟩
 ·obtain ⟨q, h1, h2, h3⟩ := item_fnd h hl.nodup (List.mem_of_getElem? hj)
  rw [hid] at h1
  exact .inr ⟨q, j, x, h1, rfl, hj, h2, hid, h3, fndL_id id l q h1⟩
 ·left
  refine ⟨?_, rfl⟩
  cases hf : fndL id l with
  | none => rfl
  | some q =>
   obtain ⟨p, _, n, h1, h2⟩ := par_of hl (fndL_iff.2 ⟨q, hf⟩)
   have hx : itm p n ∈ its := (rep_mem h).2 ⟨n, h1, rfl⟩
   exact absurd (by simp only [itm, bare_id]; exact h2) (hno _ hx)
mutual
def mapN (id : Int) (f : Nd → Nd) : Nd → Nd
 | .mk i nm r k s => if i = id then f (.mk i nm r k (mapL id f s)) else .mk i nm r k (mapL id f s)
def mapL (id : Int) (f : Nd → Nd) : List Nd → List Nd
 | [] => []
 | n :: ns => mapN id f n :: mapL id f ns
end
theorem mapL_eq (id : Int) (f : Nd → Nd) : ∀ l : List Nd, mapL id f l = l.map (mapN id f)
 | [] => rfl
 | n :: ns => by rw [mapL, mapL_eq id f ns]; rfl
mutual
theorem mapN_no {id : Int} {f : Nd → Nd} : ∀ n : Nd, id ∉ idsN n → mapN id f n = n
 | .mk i nm r k s, h => by
  simp only [idsN, List.mem_cons, not_or] at h
  rw [mapN, if_neg (fun e => h.1 e.symm), mapL_no s h.2]
theorem mapL_no {id : Int} {f : Nd → Nd} : ∀ l : List Nd, id ∉ idsL l → mapL id f l = l
 | [], _ => rfl
 | n :: ns, h => by
  simp only [idsL, List.mem_append, not_or] at h
  rw [mapL, mapN_no n h.1, mapL_no ns h.2]
end
mutual
theorem grp_mapN {id : Int} {f : Nd → Nd} : ∀ n : Nd, (idsN n).Nodup → n.id ≠ id → grpN id (setId id f) n = mapN id f n
 | .mk i nm r k s, hn, hne => by
  simp only [idsN, List.nodup_cons] at hn
  simp only [Nd.id] at hne
  rw [mapN, if_neg hne, grpN_eq]
  simp only [Nd.withSub, Nd.sub]
  rw [grp_mapL s hn.2]
theorem grp_mapL {id : Int} {f : Nd → Nd} : ∀ l : List Nd, (idsL l).Nodup → grpT id (setId id f) l = mapL id f l
 | [], _ => by simp [grpT, grpL, mapL]
 | n :: ns, hn => by
  have hn2 := hn
  simp only [idsL] at hn2
  rw [List.nodup_append] at hn2
  obtain ⟨h1, h2, h3⟩ := hn2
  by_cases ha : ((n :: ns).any fun c => decide (c.id = id)) = true
  ·unfold grpT
   rw [if_pos ha, mapL]
   unfold setId
   rw [List.map_cons]
   by_cases hni : n.id = id
   ·have hin : id ∈ idsN n := by cases n; simp only [idsN, List.mem_cons]; exact .inl hni.symm
    have hno : id ∉ idsL ns := fun e => h3 id hin id e rfl
    rw [if_pos hni, mapL_no ns hno]
    have e := setId_no (f := f) hno
    unfold setId at e
    rw [e]
    obtain ⟨i, nm, r, k, s⟩ := n
    simp only [Nd.id] at hni
    simp only [idsN, List.nodup_cons] at h1
    rw [mapN, if_pos hni, mapL_no s (by rw [← hni]; exact h1.1)]
   ·have ha2 : (ns.any fun c => decide (c.id = id)) = true := by
     rw [List.any_cons, decide_eq_false hni, Bool.false_or] at ha
     exact ha
    obtain ⟨c, hc, hci⟩ := any_id.1 ha2
    have hin : id ∈ idsL ns := hci ▸ id_in_ids hc
    have hno : id ∉ idsN n := fun e => h3 id e id hin rfl
    rw [if_neg hni, mapN_no n hno]
    have ih := grp_mapL (id := id) (f := f) ns h2
    unfold grpT at ih
    rw [if_pos ha2] at ih
    unfold setId at ih
    rw [ih]
  ·have hni : n.id ≠ id := fun e => ha (any_id.2 ⟨n, List.mem_cons_self .., e⟩)
   have ha2 : ¬ (ns.any fun c => decide (c.id = id)) = true := fun e => ha (by rw [List.any_cons, e, Bool.or_true])
   unfold grpT
   rw [if_neg ha, grpL, mapL, grp_mapN n h1 hni]
   have ih := grp_mapL (id := id) (f := f) ns h2
   unfold grpT at ih
   rw [if_neg ha2] at ih
   rw [ih]
end
def Still (f : Nd → Nd) : Prop := ∀ n, (f n).id = n.id ∧ (f n).sub = n.sub
mutual
theorem fnd_mapN {id p : Int} {f : Nd → Nd} (hf : Still f) : ∀ n : Nd, fndN p (mapN id f n) = (fndN p n).map (mapN id f)
 | .mk i nm r k s => by
  have key : ∀ m : Nd, m.id = i → m.sub = mapL id f s → (i = p → m = mapN id f (.mk i nm r k s)) → fndN p m = (fndN p (.mk i nm r k s)).map (mapN id f) := by
   intro m h1 h2 h3
   obtain ⟨i', nm', r', k', s'⟩ := m
   simp only [Nd.id, Nd.sub] at h1 h2
   subst h1; subst h2
   rw [fndN, fndN]
   by_cases e : i' = p
   ·rw [if_pos e, if_pos e, h3 e]; rfl
   ·rw [if_neg e, if_neg e]; exact fnd_mapL hf s
  refine key _ ?_ ?_ (fun _ => rfl)
  ·rw [mapN]
   split
   ·rw [(hf _).1]; rfl
   ·rfl
  ·rw [mapN]
   split
   ·rw [(hf _).2]; rfl
   ·rfl
theorem fnd_mapL {id p : Int} {f : Nd → Nd} (hf : Still f) : ∀ l : List Nd, fndL p (mapL id f l) = (fndL p l).map (mapN id f)
 | [] => rfl
 | n :: ns => by
  rw [mapL, fndL, fndL, fnd_mapN hf n]
  cases fndN p n with
  | some x => rfl
  | none => exact fnd_mapL hf ns
end
theorem map_sub {id : Int} {f : Nd → Nd} (hf : Still f) (n : Nd) : (mapN id f n).sub = mapL id f n.sub := by
 obtain ⟨i, nm, r, k, s⟩ := n
 rw [mapN]
 split
 ·rw [(hf _).2]; rfl
 ·rfl
theorem kids_map {id p : Int} {f : Nd → Nd} (hf : Still f) (l : List Nd) : kidsT p (mapL id f l) = mapL id f (kidsT p l) := by
 unfold kidsT
 split
 ·rfl
 ·rw [fnd_mapL hf l]
  cases fndL p l with
  | none => rfl
  | some q => exact map_sub hf q
def Own1 (f : Nd → Nd) : Prop := ∀ n, (f n).bare = f n.bare
def itF (id : Int) (f : Nd → Nd) (x : It) : It := if x.n.id = id then ⟨f x.n, x.ar⟩ else x
theorem rep_map {its : List It} {l : List Nd} (h : Rep its l) (hn : (idsL l).Nodup) {id : Int} {f : Nd → Nd} (hf : Still f) (ho : Own1 f) : Rep (its.map (itF id f)) (grpT id (setId id f) l) := by
 intro p
 rw [grp_mapL l hn, kids_map hf, mapL_eq, List.map_map]
 have h1 : (its.map (itF id f)).filter (arB p) = (its.filter (arB p)).map (itF id f) := by
  rw [List.filter_map]
  congr 1
  apply List.filter_congr
  intro x _
  unfold itF arB
  simp only [Function.comp]
  split <;> rfl
 rw [h1, h p, List.map_map]
 refine List.map_congr_left fun n _ => ?_
 obtain ⟨i, nm, r, k, s⟩ := n
 show itF id f (itm p (.mk i nm r k s)) = itm p (mapN id f (.mk i nm r k s))
 rw [mapN]
 unfold itF
 by_cases e : i = id
 ·rw [if_pos (show (itm p (Nd.mk i nm r k s)).n.id = id from e), if_pos e]
  unfold itm
  rw [ho]; rfl
 ·rw [if_neg (show ¬ (itm p (Nd.mk i nm r k s)).n.id = id from e), if_neg e]; rfl
theorem set_map {its : List It} (hn : (its.map fun x => x.n.id).Nodup) {id : Int} {f : Nd → Nd} {j : Nat} {x : It} (hj : its[j]? = some x) (hx : x.n.id = id) : its.set j ⟨f x.n, x.ar⟩ = its.map (itF id f) := by
 obtain ⟨l1, l2, rfl, rfl, hset⟩ := list_split hj
 rw [hset, List.map_append, List.map_cons]
 have hno : ∀ y, y ∈ l1 ∨ y ∈ l2 → itF id f y = y := fun y hy => by
  unfold itF
  rw [if_neg]
  intro e
  rw [List.map_append, List.map_cons] at hn
  rw [List.nodup_append] at hn
  obtain ⟨_, h2, h3⟩ := hn
  rw [List.nodup_cons] at h2
  rcases hy with hy | hy
  ·exact h3 _ (List.mem_map_of_mem hy) _ (List.mem_cons_self ..) (e.trans hx.symm)
  ·exact h2.1 (by rw [hx, ← e]; exact List.mem_map_of_mem (f := fun x : It => x.n.id) hy)
 have e1 : l1.map (itF id f) = l1 := by
  conv => rhs; rw [← List.map_id l1]
  exact List.map_congr_left fun y hy => hno y (.inl hy)
 have e2 : l2.map (itF id f) = l2 := by
  conv => rhs; rw [← List.map_id l2]
  exact List.map_congr_left fun y hy => hno y (.inr hy)
 rw [e1, e2]
 unfold itF
 rw [if_pos hx]
theorem still_ren (nm : ByteArray) : Still (renTo nm) ∧ Own1 (renTo nm) := ⟨fun n => by cases n; exact ⟨rfl, rfl⟩, fun n => by cases n; rfl⟩
theorem still_kind (k : Int) : Still (kindTo k) ∧ Own1 (kindTo k) := ⟨fun n => by cases n; exact ⟨rfl, rfl⟩, fun n => by cases n; rfl⟩
theorem still_rep (r : Int) : Still (repTo r) ∧ Own1 (repTo r) := ⟨fun n => by cases n; exact ⟨rfl, rfl⟩, fun n => by cases n; rfl⟩
theorem idsL_flat : ∀ l : List Nd, idsL l = l.flatMap idsN
 | [] => rfl
 | n :: ns => by rw [idsL, idsL_flat ns, List.flatMap_cons]
theorem idsL_mem {p : Int} {l : List Nd} : p ∈ idsL l ↔ ∃ c ∈ l, p ∈ idsN c := by rw [idsL_flat, List.mem_flatMap]
theorem fndL_app {p : Int} : ∀ a b : List Nd, fndL p (a ++ b) = match fndL p a with | some x => some x | none => fndL p b
 | [], b => rfl
 | n :: ns, b => by
  rw [List.cons_append, fndL, fndL]
  cases fndN p n with
  | some x => rfl
  | none => exact fndL_app ns b
theorem fndL_at {p : Int} {l : List Nd} {c : Nd} (hn : (idsL l).Nodup) (hc : c ∈ l) (hp : p ∈ idsN c) : fndL p l = fndN p c := by
 obtain ⟨l1, l2, rfl⟩ := List.append_of_mem hc
 rw [fndL_skip l2 l1 ((nodup_mid hn).2 p hp).1]
 obtain ⟨q, hq⟩ := fndN_mem p c hp
 rw [hq]
theorem fndL_perm {p : Int} {l m : List Nd} (hn : (idsL l).Nodup) (h : m.Perm l) : fndL p m = fndL p l := by
 have hnm : (idsL m).Nodup := by
  rw [idsL_flat] at hn ⊢
  exact (h.flatMap_right _).nodup_iff.2 hn
 by_cases hp : p ∈ idsL l
 ·obtain ⟨c, h1, h2⟩ := idsL_mem.1 hp
  rw [fndL_at hn h1 h2, fndL_at hnm (h.mem_iff.2 h1) h2]
 ·rw [fndL_no p l hp, fndL_no p m (fun e => by
   obtain ⟨c, h1, h2⟩ := idsL_mem.1 e
   exact hp (idsL_mem.2 ⟨c, h.mem_iff.1 h1, h2⟩))]
theorem movTo_perm {id : Int} {k : Nat} {s : List Nd} (hn : (idsL s).Nodup) : (movTo id k s).Perm s := by
 cases hf : s.find? (fun c => decide (c.id = id)) with
 | none => unfold movTo; rw [hf]
 | some q =>
  have hq := List.mem_of_find?_eq_some hf
  have hqi : q.id = id := by simpa using List.find?_some hf
  obtain ⟨j, hj⟩ := List.getElem?_of_mem hq
  obtain ⟨l1, l2, rfl, _, _, hm⟩ := movTo_at hj hqi hn k
  rw [hm]
  refine (List.perm_middle.trans ?_).trans List.perm_middle.symm
  rw [List.take_append_drop]
mutual
theorem deepN {p : Int} : ∀ (m q : Nd), fndN p m = some q → ∀ x ∈ idsL q.sub, x ∈ idsL m.sub
 | .mk i nm r k s, q, h => by
  rw [fndN] at h
  split at h
  ·cases h; exact fun x hx => hx
  ·intro x hx
   obtain ⟨c, h1, h2⟩ := deepL s q h x hx
   exact sub_in_ids h1 h2
theorem deepL {p : Int} : ∀ (l : List Nd) (q : Nd), fndL p l = some q → ∀ x ∈ idsL q.sub, ∃ c ∈ l, x ∈ idsL c.sub
 | [], q, h => by cases h
 | n :: ns, q, h => by
  rw [fndL] at h
  intro x hx
  split at h
  ·rename_i y hy
   cases h
   exact ⟨n, List.mem_cons_self .., deepN n _ hy x hx⟩
  ·obtain ⟨c, h1, h2⟩ := deepL ns q h x hx
   exact ⟨c, List.mem_cons_of_mem _ h1, h2⟩
end
theorem deep_head {p : Int} {l : List Nd} {q : Nd} (hn : (idsL l).Nodup) (h : fndL p l = some q) {x : Int} (hx : x ∈ idsL q.sub) : ∀ c ∈ l, c.id ≠ x := by
 intro c hc e
 obtain ⟨d, h1, h2⟩ := deepL l q h x hx
 have hxd : x ∈ idsN d := by cases d; simp only [idsN, List.mem_cons]; exact .inr h2
 have hxc : x ∈ idsN c := by cases c; simp only [idsN, List.mem_cons]; exact .inl e.symm
 have e1 := fndL_at hn h1 hxd
 have e2 := fndL_at hn hc hxc
 obtain ⟨l1, l2, rfl⟩ := List.append_of_mem h1
 obtain ⟨h3, h4⟩ := nodup_mid hn
 rcases List.mem_append.1 hc with hc | hc
 ·exact (h4 x hxd).1 (e ▸ id_in_ids hc)
 ·rcases List.mem_cons.1 hc with rfl | hc
  ·cases c
   simp only [idsN, List.nodup_cons, Nd.id, Nd.sub] at h3 e h2
   exact h3.1 (by rw [e]; exact h2)
  ·exact (h4 x hxd).2 (e ▸ id_in_ids hc)
mutual
theorem fnd_grpN {id p : Int} {k : Nat} : ∀ n : Nd, (idsN n).Nodup → fndN p (grpN id (movTo id k) n) = (fndN p n).map (grpN id (movTo id k))
 | .mk i nm r kd s, hn => by
  simp only [idsN, List.nodup_cons] at hn
  have e : grpN id (movTo id k) (.mk i nm r kd s) = .mk i nm r kd (grpT id (movTo id k) s) := by rw [grpN_eq]; rfl
  rw [e, fndN, fndN]
  by_cases h : i = p
  ·rw [if_pos h, if_pos h, Option.map_some, e]
  ·rw [if_neg h, if_neg h]
   exact fnd_grpL s hn.2
theorem fnd_grpL {id p : Int} {k : Nat} : ∀ l : List Nd, (idsL l).Nodup → fndL p (grpT id (movTo id k) l) = (fndL p l).map (grpN id (movTo id k))
 | l, hn => by
  by_cases ha : (l.any fun c => decide (c.id = id)) = true
  ·have e : grpT id (movTo id k) l = movTo id k l := if_pos ha
   rw [e, fndL_perm hn (movTo_perm hn)]
   cases hf : fndL p l with
   | none => rfl
   | some q =>
    obtain ⟨c, hc, hci⟩ := any_id.1 ha
    rw [Option.map_some, grpN_no id _ q (fun hx => deep_head hn hf hx c hc hci)]
  ·have e : grpT id (movTo id k) l = grpL id (movTo id k) l := if_neg ha
   rw [e]
   exact fnd_grpLL l hn
theorem fnd_grpLL {id p : Int} {k : Nat} : ∀ l : List Nd, (idsL l).Nodup → fndL p (grpL id (movTo id k) l) = (fndL p l).map (grpN id (movTo id k))
 | [], _ => rfl
 | n :: ns, hn => by
  simp only [idsL] at hn
  rw [List.nodup_append] at hn
  rw [grpL, fndL, fndL, fnd_grpN n hn.1]
  cases fndN p n with
  | some x => rfl
  | none => exact fnd_grpLL ns hn.2.1
end
theorem kids_grp {id p : Int} {k : Nat} {l : List Nd} (hn : (idsL l).Nodup) : kidsT p (grpT id (movTo id k) l) = grpT id (movTo id k) (kidsT p l) := by
 unfold kidsT
 split
 ·rfl
 ·rw [fnd_grpL l hn]
  cases fndL p l with
  | none => simp [grpT, grpL]
  | some q =>
   show (grpN id (movTo id k) q).sub = grpT id (movTo id k) q.sub
   rw [grpN_eq]
   cases q; rfl
theorem bare_grp {id : Int} {g : List Nd → List Nd} (n : Nd) : (grpN id g n).bare = n.bare := by
 rw [grpN_eq]; cases n; rfl
theorem item_one {its : List It} (hn : (its.map fun x => x.n.id).Nodup) {x y : It} (hx : x ∈ its) (hy : y ∈ its) (e : x.n.id = y.n.id) : x = y := by
 obtain ⟨l1, l2, rfl⟩ := List.append_of_mem hx
 rw [List.map_append, List.map_cons, List.nodup_append] at hn
 obtain ⟨_, h2, h3⟩ := hn
 rw [List.nodup_cons] at h2
 rcases List.mem_append.1 hy with hy | hy
 ·exact absurd e.symm (h3 _ (List.mem_map_of_mem hy) _ (List.mem_cons_self ..))
 ·rcases List.mem_cons.1 hy with rfl | hy
  ·rfl
  ·exact absurd (by rw [e]; exact List.mem_map_of_mem (f := fun x : It => x.n.id) hy) h2.1
theorem rep_move {its its' : List It} {l : List Nd} (h : Rep its l) (hl : Numb l) (hn : (its.map fun x => x.n.id).Nodup) {id : Int} {k : Nat} {x : It} {q : Nd} (hx : x ∈ its) (hxi : x.n.id = id) (hq : fndL id l = some q)
  (ho : ∀ p, p ≠ x.ar → its'.filter (arB p) = its.filter (arB p))
  (hs : its'.filter (arB x.ar) = (((its.filter (arB x.ar)).filter fun y => !decide (y.n.id = id)).take k) ++ x :: (((its.filter (arB x.ar)).filter fun y => !decide (y.n.id = id)).drop k)) : Rep its' (grpT id (movTo id k) l) := by
 obtain ⟨n, h1, h2, h3⟩ := item_fnd h hl.nodup hx
 rw [hxi, hq] at h1
 obtain rfl := Option.some.inj h1
 have hqi : q.id = id := fndL_id id l q hq
 have hplain : ∀ p (m : List Nd), ¬ (m.any fun c => decide (c.id = id)) = true → (grpT id (movTo id k) m).map (itm p) = m.map (itm p) := fun p m ha => by
  unfold grpT
  rw [if_neg ha, grpL_eq, List.map_map]
  refine List.map_congr_left fun c _ => ?_
  show It.mk (grpN id (movTo id k) c).bare p = It.mk c.bare p
  rw [bare_grp]
 intro p
 rw [kids_grp hl.nodup]
 by_cases hp : p = x.ar
 ·subst hp
  have ha : ((kidsT x.ar l).any fun c => decide (c.id = id)) = true := any_id.2 ⟨q, h3, hqi⟩
  have e : grpT id (movTo id k) (kidsT x.ar l) = movTo id k (kidsT x.ar l) := if_pos ha
  have hnk : (idsL (kidsT x.ar l)).Nodup := by
   unfold kidsT
   split
   ·exact hl.nodup
   ·split
    ·rename_i q' hq'
     exact fnd_nodup hl.nodup hq'
    ·simp [idsL]
  obtain ⟨j, hj⟩ := List.getElem?_of_mem h3
  obtain ⟨l1, l2, hsp, _, hl1, hm⟩ := movTo_at hj hqi hnk k
  have hl2 : ∀ y ∈ l2, y.id ≠ id := by
   rw [hsp] at hnk
   intro y hy e
   have hiq : id ∈ idsN q := by cases q; simp only [idsN, List.mem_cons]; exact .inl hqi.symm
   exact ((nodup_mid hnk).2 id hiq).2 (e ▸ id_in_ids hy)
  rw [e, hm, hs, h x.ar, hsp]
  have hfl : (((l1 ++ q :: l2).map (itm x.ar)).filter fun y => !decide (y.n.id = id)) = (l1 ++ l2).map (itm x.ar) := by
   rw [List.map_append, List.map_cons, List.filter_append, List.filter_cons_of_neg (by simp [itm, bare_id, hqi]), List.filter_eq_self.2, List.filter_eq_self.2, ← List.map_append]
   ·intro y hy
    obtain ⟨c, hc, rfl⟩ := List.mem_map.1 hy
    simpa [itm, bare_id] using hl2 c hc
   ·intro y hy
    obtain ⟨c, hc, rfl⟩ := List.mem_map.1 hy
    simpa [itm, bare_id] using hl1 c hc
  have hxe : x = itm x.ar q := by
   cases x
   simp only at h2
   rw [h2]; rfl
  have e8 : ∀ (F : Nd → It) (m : List Nd), (m.map F).take k ++ F q :: (m.map F).drop k = (m.take k ++ q :: m.drop k).map F := fun F m => by rw [List.map_append, List.map_cons, List.map_take, List.map_drop]
  have e9 := e8 (itm x.ar) (l1 ++ l2)
  rw [← hxe] at e9
  rw [hfl]
  exact e9
 ·rw [ho p hp, h p, hplain p]
  intro ha
  obtain ⟨c, hc, hci⟩ := any_id.1 ha
  have hy : itm p c ∈ its := (rep_mem h).2 ⟨c, hc, rfl⟩
  have := item_one hn hx hy (by simp only [itm, bare_id]; rw [hxi, hci])
  exact hp (by rw [this]; rfl)
where
 fnd_nodup {p : Int} {l : List Nd} {q : Nd} (hn : (idsL l).Nodup) (h : fndL p l = some q) : (idsL q.sub).Nodup := by
  have key : (∀ (m q : Nd), (idsN m).Nodup → fndN p m = some q → (idsL q.sub).Nodup) ∧ True := ⟨?_, trivial⟩
  ·obtain ⟨c, h1, h2⟩ : ∃ c ∈ l, fndN p c = some q := by
    have hp := fndL_iff.2 ⟨q, h⟩
    obtain ⟨c, h1, h2⟩ := idsL_mem.1 hp
    exact ⟨c, h1, by rw [← fndL_at hn h1 h2]; exact h⟩
   refine key.1 c q ?_ h2
   obtain ⟨l1, l2, rfl⟩ := List.append_of_mem h1
   exact (nodup_mid hn).1
  ·intro m
   refine Nd.rec (motive_1 := fun m => ∀ q, (idsN m).Nodup → fndN p m = some q → (idsL q.sub).Nodup) (motive_2 := fun l => ∀ q, (idsL l).Nodup → fndL p l = some q → (idsL q.sub).Nodup) ?_ ?_ ?_ m
   ·intro i nm r k s ih q hn h
    simp only [idsN, List.nodup_cons] at hn
    rw [fndN] at h
    split at h
    ·cases h; exact hn.2
    ·exact ih q hn.2 h
   ·intro q _ h; cases h
   ·intro n ns h1 h2 q hn h
    simp only [idsL] at hn
    rw [List.nodup_append] at hn
    rw [fndL] at h
    split at h
    ·rename_i x hx
     cases h
     exact h1 _ hn.1 hx
    ·exact h2 q hn.2.1 h
def flatI (p : Int) : List Nd → List It
 | [] => []
 | .mk i nm r k s :: ns => ⟨.mk i nm r k [], p⟩ :: (flatI i s ++ flatI p ns)
def kidsP (p : Int) (s : List Nd) : List Nd := match fndL p s with
 | some n => n.sub
 | none => []
theorem flat_filter : ∀ (q : Int) (s : List Nd), (idsL s).Nodup → q ∉ idsL s → ∀ p, (flatI q s).filter (arB p) = if p = q then s.map (itm q) else (kidsP p s).map (itm p)
 | q, [], _, _, p => by
  unfold flatI kidsP
  split <;> rfl
 | q, .mk i nm r k s :: ns, hn, hq, p => by
  simp only [idsL, idsN] at hn hq
  rw [List.nodup_append, List.nodup_cons] at hn
  obtain ⟨⟨hi, hs⟩, hns, hdis⟩ := hn
  simp only [List.mem_append, List.mem_cons, not_or] at hq
  have ih1 := flat_filter i s hs hi p
  have ih2 := flat_filter q ns hns hq.2 p
  rw [flatI, List.filter_cons, List.filter_append, ih1, ih2]
  by_cases hp : p = q
  ·subst hp
   rw [if_pos (show arB p ⟨.mk i nm r k [], p⟩ = true from decide_eq_true rfl), if_neg hq.1.1, if_pos rfl, if_pos rfl]
   have : kidsP p s = [] := by unfold kidsP; rw [fndL_no p s hq.1.2]
   rw [this]
   rfl
  ·rw [if_neg (show ¬ arB p ⟨.mk i nm r k [], q⟩ = true from fun e => hp (of_decide_eq_true e).symm), if_neg hp, if_neg hp]
   by_cases hpi : p = i
   ·subst hpi
    have h1 : kidsP p ns = [] := by unfold kidsP; rw [fndL_no p ns (fun e => hdis p (List.mem_cons_self ..) p e rfl)]
    have h2 : kidsP p (.mk p nm r k s :: ns) = s := by
     unfold kidsP
     rw [fndL, fndN, if_pos rfl]
     rfl
    rw [if_pos rfl, h1, h2, List.map_nil, List.append_nil]
   ·rw [if_neg hpi]
    have h2 : kidsP p (.mk i nm r k s :: ns) = kidsP p s ++ kidsP p ns := by
     unfold kidsP
     rw [fndL, fndN, if_neg (fun e => hpi e.symm)]
     cases hf : fndL p s with
     | none => rfl
     | some y =>
      have hps := fndL_iff.2 ⟨y, hf⟩
      rw [fndL_no p ns (fun e => hdis p (List.mem_cons_of_mem _ hps) p e rfl)]
      simp
    rw [h2, List.map_append]
theorem kidsT_P {p : Int} {l : List Nd} (hp : p ≠ 0) : kidsT p l = kidsP p l := if_neg hp
theorem rep_add0 {its : List It} {l : List Nd} {t : Nd} (h : Rep its l) (hl : Numb l) (ht : Numb [t]) (hd : ∀ x ∈ idsN t, x ∉ idsL l) : Rep (its ++ flatI 0 [t]) (l ++ [t]) := by
 intro p
 have h0 : (0 : Int) ∉ idsL [t] := fun e => by have := ht.pos 0 e; omega
 rw [List.filter_append, h p, flat_filter 0 [t] ht.nodup h0 p]
 by_cases hp : p = 0
 ·subst hp
  rw [if_pos rfl, kids_zero, kids_zero, List.map_append]
 ·rw [if_neg hp, kidsT_P hp, kidsT_P hp]
  unfold kidsP
  rw [fndL_app]
  cases hf : fndL p l with
  | none => rfl
  | some y =>
   have hpl := fndL_iff.2 ⟨y, hf⟩
   rw [fndL_no p [t] (fun e => hd p (by simpa [idsL] using e) hpl)]
   simp
mutual
theorem fnd_addN {into p : Int} {t : Nd} (hp : p ∉ idsN t) : ∀ n : Nd, fndN p (mapN into (addSub t) n) = (fndN p n).map (mapN into (addSub t))
 | .mk i nm r k s => by
  have e : mapN into (addSub t) (.mk i nm r k s) = .mk i nm r k (mapL into (addSub t) s ++ if i = into then [t] else []) := by
   rw [mapN]
   split <;> simp [addSub, Nd.withSub, Nd.sub]
  rw [e, fndN, fndN]
  by_cases h : i = p
  ·rw [if_pos h, if_pos h, Option.map_some, e]
  ·rw [if_neg h, if_neg h, fndL_app, fnd_addL hp s]
   cases fndL p s with
   | some y => rfl
   | none =>
    show fndL p (if i = into then [t] else []) = none
    split
    ·exact fndL_no p [t] (by simpa [idsL] using hp)
    ·rfl
theorem fnd_addL {into p : Int} {t : Nd} (hp : p ∉ idsN t) : ∀ l : List Nd, fndL p (mapL into (addSub t) l) = (fndL p l).map (mapN into (addSub t))
 | [] => rfl
 | n :: ns => by
  rw [mapL, fndL, fndL, fnd_addN hp n]
  cases fndN p n with
  | some x => rfl
  | none => exact fnd_addL hp ns
end
mutual
theorem fnd_newN {into p : Int} {t : Nd} (hp : p ∈ idsN t) : ∀ n : Nd, (idsN n).Nodup → p ∉ idsN n → into ∈ idsN n → fndN p (mapN into (addSub t) n) = fndN p t
 | .mk i nm r k s, hn, hno, hi => by
  simp only [idsN, List.nodup_cons, List.mem_cons, not_or] at hn hno hi
  have e : mapN into (addSub t) (.mk i nm r k s) = .mk i nm r k (mapL into (addSub t) s ++ if i = into then [t] else []) := by
   rw [mapN]
   split <;> simp [addSub, Nd.withSub, Nd.sub]
  rw [e, fndN, if_neg (fun e => hno.1 e.symm), fndL_app]
  by_cases h : i = into
  ·subst h
   rw [mapL_no s hn.1, fndL_no p s hno.2, if_pos rfl]
   show fndL p [t] = fndN p t
   rw [fndL]
   obtain ⟨q, hq⟩ := fndN_mem p t hp
   rw [hq]
  ·rw [fnd_newL hp s hn.2 hno.2 (hi.resolve_left (fun e => h e.symm))]
   obtain ⟨q, hq⟩ := fndN_mem p t hp
   rw [hq]
theorem fnd_newL {into p : Int} {t : Nd} (hp : p ∈ idsN t) : ∀ l : List Nd, (idsL l).Nodup → p ∉ idsL l → into ∈ idsL l → fndL p (mapL into (addSub t) l) = fndN p t
 | [], _, _, hi => by simp [idsL] at hi
 | n :: ns, hn, hno, hi => by
  simp only [idsL] at hn hno hi
  rw [List.nodup_append] at hn
  simp only [List.mem_append, not_or] at hno
  rw [mapL, fndL]
  obtain ⟨q, hq⟩ := fndN_mem p t hp
  rcases List.mem_append.1 hi with hi | hi
  ·rw [fnd_newN hp n hn.1 hno.1 hi, hq]
  ·have hin : into ∉ idsN n := fun e => hn.2.2 into e into hi rfl
   rw [mapN_no n hin, fndN_no p n hno.1]
   exact fnd_newL hp ns hn.2.1 hno.2 hi
end
theorem rep_add {its : List It} {l : List Nd} {t : Nd} {into : Int} (h : Rep its l) (hl : Numb l) (ht : Numb [t]) (hd : ∀ x ∈ idsN t, x ∉ idsL l) (hi : into ∈ idsL l) : Rep (its ++ flatI into [t]) (grpT into (setId into (addSub t)) l) := by
 intro p
 have hi0 : into ≠ 0 := by have := hl.pos into hi; omega
 have hit : into ∉ idsL [t] := fun e => hd into (by simpa [idsL] using e) hi
 rw [grp_mapL l hl.nodup, List.filter_append, h p, flat_filter into [t] ht.nodup hit p]
 have hbare : ∀ (p : Int) (s : List Nd), (mapL into (addSub t) s).map (itm p) = s.map (itm p) := fun p s => by
  rw [mapL_eq, List.map_map]
  refine List.map_congr_left fun c _ => ?_
  show It.mk (mapN into (addSub t) c).bare p = It.mk c.bare p
  obtain ⟨i, nm, r, k, s⟩ := c
  rw [mapN]
  split <;> rfl
 by_cases hp0 : p = 0
 ·subst hp0
  rw [if_neg (Ne.symm hi0), kids_zero, kids_zero, hbare]
  have : kidsP 0 [t] = [] := by unfold kidsP; rw [fndL_no 0 [t] (fun e => by have := ht.pos 0 e; omega)]
  rw [this, List.map_nil, List.append_nil]
 rw [kidsT_P hp0, kidsT_P hp0]
 by_cases hpt : p ∈ idsN t
 ·have hpl := hd p hpt
  rw [if_neg (fun e => by subst e; exact hpl hi)]
  have e1 : kidsP p l = [] := by unfold kidsP; rw [fndL_no p l hpl]
  have e2 : kidsP p (mapL into (addSub t) l) = kidsP p [t] := by
   unfold kidsP
   rw [fnd_newL hpt l hl.nodup hpl hi, fndL]
   obtain ⟨q, hq⟩ := fndN_mem p t hpt
   rw [hq]
  rw [e1, e2]; rfl
 ·have e1 : kidsP p [t] = [] := by unfold kidsP; rw [fndL_no p [t] (by simpa [idsL] using hpt)]
  have e2 : kidsP p (mapL into (addSub t) l) = match fndL p l with | some q => mapL into (addSub t) q.sub ++ (if p = into then [t] else []) | none => [] := by
   unfold kidsP
   rw [fnd_addL hpt l]
   cases hf : fndL p l with
   | none => rfl
   | some q =>
    have hqi := fndL_id p l q hf
    obtain ⟨i, nm, r, k, s⟩ := q
    simp only [Nd.id] at hqi
    subst hqi
    show (mapN into (addSub t) (.mk i nm r k s)).sub = mapL into (addSub t) s ++ if i = into then [t] else []
    rw [mapN]
    split <;> simp [addSub, Nd.withSub, Nd.sub]
  rw [e1, e2]
  unfold kidsP
  cases hf : fndL p l with
  | none =>
   rw [if_neg (fun e => by subst e; rw [fndL_iff.1 hi |>.choose_spec] at hf; cases hf)]
   rfl
  | some q =>
   simp only
   rw [List.map_append, hbare]
   split
   ·rename_i e; subst e; rfl
   ·rfl
def LogI (w : World) (gb : Nat) (its : List It) (nx : Int) : Prop := ∃ v, Blk w gb [v, .int .i64 nx] 86 ∧ Its w (fun b => b ≠ gb) v its
theorem LogI.keep {w w' : World} {gb : Nat} {its : List It} {nx : Int} (h : LogI w gb its nx) (hc : Chg NoB w w') : LogI w' gb its nx := by
 obtain ⟨v, h1, h2⟩ := h
 exact ⟨v, h1.keep hc nbE, h2.keep hc (fun _ _ => nbE)⟩
def becF (its : List It) (k : Nat) : Int := if its.isEmpty = true then 0 else errNum (validF (rootNd (underF its k 0)))
theorem errNum_pos (e : Er) : 0 < errNum (some e) ∧ errNum (some e) ≤ 100 := by cases e <;> exact ⟨by decide, by decide⟩
def RetBec (gb : Nat) (its : List It) (nx : Int) (k : Nat) (w : World) (en : Ending) (w' : World) : Prop :=
 en = .returned (.int .i64 (becF its k)) ∧ Chg (OneB gb) w w' ∧ (becF its k = 0 → LogI w' gb its nx)
theorem becomeR_any (gb : Nat) (v0 : Value) (n0 : Int) (its : List It) (nx m : Int) (k : Nat) (v : Value) (S : Nat → Prop) (w : World) (hb : Blk w gb [v0, .int .i64 n0] 86) (hi : Its w S v its) (hS : ∀ b, S b → b ≠ gb)
  (hg : Grow its m) (hk : m ≤ k) (hok : (rootNd (underF its k 0)).ok) :
  Calls Tryz.prog 84 #[.pointer (some ⟨gb, 0, none⟩), v, .int .i64 nx] w (RetBec gb its nx k w) := by
 obtain ⟨a, c, rfl, hlc, hcm, _⟩ := hi.form
 have g0 : w.cell? ⟨gb, 0, none⟩ = some v0 := hb.cell 0
 have g1 : w.cell? ⟨gb, 1, none⟩ = some (.int .i64 n0) := hb.cell 1
 have f0 : w.frozen? ⟨gb, 0, none⟩ = false := hb.free 0
 have f1 : w.frozen? ⟨gb, 1, none⟩ = false := hb.free 1
 have hbl := hb.lt
 have hstore : ∀ w1 : World, Chg NoB w w1 → Chg (OneB gb) w ((w1.setCell ⟨gb, 0, none⟩ (.slice a its.length c)).setCell ⟨gb, 1, none⟩ (.int .i64 nx)) ∧ LogI ((w1.setCell ⟨gb, 0, none⟩ (.slice a its.length c)).setCell ⟨gb, 1, none⟩ (.int .i64 nx)) gb its nx := fun w1 h1 => by
  have hb1 := ((hb.keep h1 nbE).set 0 (.slice a its.length c)).set 1 (.int .i64 nx)
  have hc1 : Chg (OneB gb) w1 ((w1.setCell ⟨gb, 0, none⟩ (.slice a its.length c)).setCell ⟨gb, 1, none⟩ (.int .i64 nx)) := ((Chg.refl (OneB gb) w1).setCell (p := ⟨gb, 0, none⟩) (.inl rfl) _).setCell (p := ⟨gb, 1, none⟩) (.inl rfl) _
  exact ⟨(h1.mono (D := OneB gb) (fun _ _ e => nbE e)).trans hc1 (fun i e => .inl e), _, hb1, ((hi.keep h1 (fun _ _ => nbE)).keep hc1 (fun b hb e => hS b hb e)).mono hS⟩
 have Hst := Lib.hid hstore
 clear hstore
 by_cases he : its = []
 ·subst he
  have hr : becF [] k = 0 := rfl
  have Hr := Lib.hid hr
  clear hr
  simp only [List.length_nil] at *
  go_enter Tryz.func84, Tryz.ntmps84
  go_wp2_with fail
  go_ret
  obtain ⟨h1, h2⟩ := Hst.out w (Chg.refl _ _)
  refine ⟨by rw [Hr.out]; rfl, h1, fun _ => h2⟩
 ·have hlp : (0 : Int) < (its.length : Int) := by
   have : its.length ≠ 0 := fun h => he (List.eq_nil_of_length_eq_zero h)
   omega
  have hr : becF its k = errNum (validF (rootNd (underF its k 0))) := by
   unfold becF
   rw [if_neg (by simpa using he)]
  have Hr := Lib.hid hr
  have hno := nodeOf_any its m hg (.slice a its.length c) S k w hi hk
  clear hr he
  go_enter Tryz.func84, Tryz.ntmps84
  go_wp2_with fail
  refine hno.mono ?_
  rintro en w1 ⟨v1, F1, rfl, ht1, _, hc1⟩
  clear hno
  have hrd : Reads w1 (fun b => b < w1.heap.size) (rootNd (underF its k 0)).dt (ndCells 0 rootName 1 0 v1) := reads_nd.2 ⟨_, rfl, ht1.reads (fun x hx => (ht1.lt x hx).2)⟩
  have hse := schemaError_any (rootNd (underF its k 0)) w1 _ _ hrd hok
  obtain ⟨a1, c1, rfl, _, _⟩ := ht1.form
  unfold ndCells at hse
  go_wp2_with fail
  refine hse.mono ?_
  clear hse
  rintro en w2 ⟨r, rfl, hs, hc2⟩
  have hre : r = becF its k := by rw [Hr.out]; exact err_law hs
  subst hre
  have hc02 := hc1.tr hc2
  have g0' := (hc02.cell (p := ⟨gb, 0, none⟩) hbl nbE).trans g0
  have g1' := (hc02.cell (p := ⟨gb, 1, none⟩) hbl nbE).trans g1
  have f0' := (hc02.frozen (p := ⟨gb, 0, none⟩) hbl nbE).trans f0
  have f1' := (hc02.frozen (p := ⟨gb, 1, none⟩) hbl nbE).trans f1
  clear hs g0 g1 f0 f1 hrd
  generalize hbr : becF its k = r
  have Hb := Lib.hid hbr
  clear hbr
  by_cases hpos : r > 0
  ·have hrI : (0 : Int) < r := hpos
   have Hz := Lib.hid (show r ≠ 0 from by omega)
   go_wp2_with fail
   go_ret
   exact ⟨by rw [Hb.out]; rfl, hc02.mono (fun _ _ e => nbE e), fun h => absurd (Hb.out.symm.trans h) Hz.out⟩
  ·have hr0 : r = 0 := by
    rw [← Hb.out, Hr.out]
    cases hv : validF (rootNd (underF its k 0)) with
    | none => rfl
    | some e =>
     have := (errNum_pos e).1
     rw [← hv, ← Hr.out, Hb.out] at this
     exact absurd this hpos
   subst hr0
   clear hpos
   go_wp2_with fail
   go_ret
   obtain ⟨h1, h2⟩ := Hst.out w2 hc02
   exact ⟨by rw [Hb.out]; rfl, h1, fun _ => h2⟩
end Go.Proofs.YtgcmfpcgmkkobaaGreatDoor
