/-
  A node by its words: the document's and the line's are one.; A log of items that stands for a tree; what the document's Edit answers.
-/
import Derived.Test.YtgcmfpcgmkkobaaGreatDoorAddedR
import Derived.Test.YtgcmfpcgmkkobaaGreatDoorItemMv
import Derived.Test.YtgcmfpcgmkkobaaGreatDoorItemDr
set_option linter.unusedVariables false
set_option linter.unusedSimpArgs false
namespace Go.Proofs.YtgcmfpcgmkkobaaGreatDoor
open Go.RowKit
theorem data_one {a b : ByteArray} (h : a.data.toList = b.data.toList) : a = b := by rw [← mkB_self a, ← mkB_self b, h]
mutual
theorem twR : ∀ (t t' : Nd) (r r' : List (List UInt8)), t.All PlainW → t'.All PlainW → wordsN t ++ r = wordsN t' ++ r' → (∀ a, renN a t = renN a t') ∧ r = r'
 | .mk i nm rp k s, .mk i' nm' rp' k' s', r, r', hA, hB, h => by
  obtain ⟨⟨a1, a2, a3, a4, a5, a6⟩, hs⟩ := hA
  obtain ⟨⟨b1, b2, b3, b4, b5, b6⟩, hs'⟩ := hB
  simp only [Nd.rep, Nd.kind, Nd.sub, Nd.name] at a1 a2 a3 a4 a5 a6 b1 b2 b3 b4 b5 b6
  simp only [wordsN] at h
  have hk : k = k' := by
   refine kindS_inj a3 a4 b3 b4 ?_
   by_cases e1 : k = 0
   ·rw [if_pos e1] at h
    by_cases e2 : k' = 0
    ·rw [e1, e2]
    ·rw [if_neg e2] at h
     exact (List.cons.inj (List.cons.inj h).2).1
   ·rw [if_neg e1] at h
    by_cases e2 : k' = 0
    ·rw [if_pos e2] at h
     exact (List.cons.inj (List.cons.inj h).2).1
    ·rw [if_neg e2] at h
     exact (List.cons.inj (List.cons.inj h).2).1
  subst hk
  by_cases e1 : k = 0
  ·rw [if_pos e1] at h
   rw [if_pos e1] at h
   simp only [List.cons_append, List.nil_append, List.append_assoc, List.cons.injEq] at h
   obtain ⟨h1, h2, h3, _, h5⟩ := h
   obtain ⟨h6, h7⟩ := twRL s s' r r' hs hs' h5
   obtain rfl := repS_inj a1 a2 b1 b2 h1
   obtain rfl := data_one h3
   exact ⟨fun a => by rw [renN, renN, h6], h7⟩
  ·rw [if_neg e1] at h
   rw [if_neg e1] at h
   simp only [List.cons_append, List.nil_append, List.cons.injEq] at h
   obtain rfl := repS_inj a1 a2 b1 b2 h.1
   obtain rfl := data_one (List.append_cancel_right h.2.2.1)
   rw [a6 e1, b6 e1]
   exact ⟨fun a => rfl, h.2.2.2⟩
theorem twRL : ∀ (s s' : List Nd) (r r' : List (List UInt8)), Nd.Alls PlainW s → Nd.Alls PlainW s' → wordsNs s ++ [125] :: r = wordsNs s' ++ [125] :: r' → (∀ a, renL a s = renL a s') ∧ r = r'
 | [], [], r, r', _, _, h => by
  simp only [wordsNs, List.nil_append, List.cons.injEq, true_and] at h
  exact ⟨fun _ => rfl, h⟩
 | [], .mk i nm rp k s0 :: s', r, r', _, hB, h => by
  exfalso
  have h1 : [125] = repS rp := by
   simp only [wordsNs, List.nil_append, wordsN, List.append_assoc] at h
   split at h <;> exact (List.cons.inj h).1
  exact repS_close hB.1.1.1 hB.1.1.2.1 h1.symm
 | .mk i nm rp k s0 :: s, [], r, r', hA, _, h => by
  exfalso
  have h1 : repS rp = [125] := by
   simp only [wordsNs, List.nil_append, wordsN, List.append_assoc] at h
   split at h <;> exact (List.cons.inj h).1
  exact repS_close hA.1.1.1 hA.1.1.2.1 h1
 | t :: s, t' :: s', r, r', hA, hB, h => by
  simp only [wordsNs, List.append_assoc] at h
  obtain ⟨h1, h2⟩ := twR t t' _ _ hA.1 hB.1 h
  obtain ⟨h3, h4⟩ := twRL s s' r r' hA.2 hB.2 h2
  have hw : t.weigh = t'.weigh := by rw [← ren_weigh 0 t, ← ren_weigh 0 t', h1]
  exact ⟨fun a => by rw [renL, renL, h1, hw, h3], h4⟩
end
mutual
theorem unren {P : Nd → Prop} (hP : ∀ i j nm r k s a, P (.mk i nm r k (renL a s)) → P (.mk j nm r k s)) : ∀ (a : Int) (n : Nd), (renN a n).All P → n.All P
 | a, .mk i nm r k s, h => ⟨hP _ _ _ _ _ _ _ h.1, unrenL hP (a + 1) s h.2⟩
theorem unrenL {P : Nd → Prop} (hP : ∀ i j nm r k s a, P (.mk i nm r k (renL a s)) → P (.mk j nm r k s)) : ∀ (a : Int) (l : List Nd), Nd.Alls P (renL a l) → Nd.Alls P l
 | a, [], _ => trivial
 | a, n :: ns, h => ⟨unren hP a n h.1, unrenL hP _ ns h.2⟩
end
theorem plainW_of {n : Nd} (h : Plainly n) : PlainW n := ⟨h.1, h.2.1, h.2.2.1, h.2.2.2.1, h.2.2.2.2.2.2, h.2.2.2.2.1⟩
theorem fit_plainly {t : Nd} (ht : t.All PlainW) (hf : Fit [renN 1 t]) : t.All Plainly := by
 have h1 : (renN 1 t).All (fun n => n.kind = 0 → n.sub ≠ []) := (fit_groups hf).1
 have h2 := unren (P := fun n => n.kind = 0 → n.sub ≠ []) (fun i j nm r k s a h hk hs => h hk (by
  have hs : s = [] := hs
  rw [hs]; rfl)) 1 t h1
 have h3 := Nd.All.and (P := PlainW) (Q := fun n => n.kind = 0 → n.sub ≠ []) t ht h2
 exact Nd.All.imp (fun n hn => ⟨hn.1.1, hn.1.2.1, hn.1.2.2.1, hn.1.2.2.2.1, hn.1.2.2.2.2.2, hn.2, hn.1.2.2.2.2.1⟩) t h3
theorem nodeF_yes {line : ByteArray} {t : Nd} (ht : t.All PlainW) (hw : wordsB line = (wordsN t).map mkB) (hf : Fit [renN 1 t]) (nx : Int) : nodeF line nx = some (renN nx t, nx + t.weigh) := nodeF_of hf (fit_plainly ht hf) hw nx
theorem map_mk_inj {a b : List (List UInt8)} (h : a.map mkB = b.map mkB) : a = b := by
 have h1 := congrArg (List.map fun x : ByteArray => x.data.toList) h
 rw [List.map_map, List.map_map] at h1
 have : (fun x : ByteArray => x.data.toList) ∘ mkB = id := funext fun l => rfl
 rwa [this, List.map_id, List.map_id] at h1
theorem nodeF_unfit {line : ByteArray} {t : Nd} (ht : t.All PlainW) (hw : wordsB line = (wordsN t).map mkB) (hf : ¬ Fit [renN 1 t]) (nx : Int) : nodeF line nx = none := by
 cases h : nodeF line nx with
 | none => rfl
 | some p =>
  exfalso
  obtain ⟨t1, nx1⟩ := p
  obtain ⟨t0, h1, h2, h3, _, _⟩ := nodeF_some h
  have h4 : wordsN t = wordsN t0 := map_mk_inj (hw.symm.trans h3)
  have h5 := (twR t t0 [] [] ht (Nd.All.imp (fun n hn => plainW_of hn) t0 h2) (by rw [h4])).1 1
  exact hf (by rw [h5]; exact h1)
theorem nodeF_no {line : ByteArray} {X : List (List UInt8)} (hw : wordsB line = X.map mkB) (hX : ∀ t : Nd, t.All PlainW → X ≠ wordsN t) (nx : Int) : nodeF line nx = none := by
 cases h : nodeF line nx with
 | none => rfl
 | some p =>
  exfalso
  obtain ⟨t1, nx1⟩ := p
  obtain ⟨t0, h1, h2, h3, _, _⟩ := nodeF_some h
  exact hX t0 (Nd.All.imp (fun n hn => plainW_of hn) t0 h2) (map_mk_inj (hw.symm.trans h3))
theorem flat_shift (d : Int) : ∀ (p a : Int) (s : List Nd), flatI (p + d) (renL (a + d) s) = (flatI p (renL a s)).map fun x => ⟨.mk (x.n.id + d) x.n.name x.n.rep x.n.kind [], x.ar + d⟩
 | p, a, [] => by simp [renL, flatI]
 | p, a, .mk i nm r k s :: ns => by
  have h1 := flat_shift d a (a + 1) s
  have h2 := flat_shift d p (a + (Nd.mk i nm r k s).weigh) ns
  rw [show a + 1 + d = a + d + 1 from by omega] at h1
  rw [show a + ((Nd.mk i nm r k s).weigh : Int) + d = a + d + ((Nd.mk i nm r k s).weigh : Int) from by omega] at h2
  rw [renL, renL, renN, renN, flatI, flatI, h1, h2, List.map_cons, List.map_append]
  rfl
theorem flat_grow : ∀ (p a : Int) (s : List Nd), 0 ≤ p → p < a → ∀ x ∈ flatI p (renL a s), 0 ≤ x.ar ∧ x.ar < x.n.id ∧ a ≤ x.n.id ∧ x.n.id < a + Nd.weighs s ∧ x.n.sub = []
 | p, a, [], _, _, x, hx => by simp [renL, flatI] at hx
 | p, a, .mk i nm r k s :: ns, hp, hpa, x, hx => by
  rw [renL, renN, flatI] at hx
  have hw : (Nd.weighs (.mk i nm r k s :: ns) : Int) = 1 + Nd.weighs s + Nd.weighs ns := by simp only [Nd.weighs, Nd.weigh]; omega
  have hw1 : ((Nd.mk i nm r k s).weigh : Int) = 1 + Nd.weighs s := by simp only [Nd.weigh]; omega
  rcases List.mem_cons.1 hx with rfl | hx
  ·exact ⟨hp, hpa, Int.le_refl _, by simp only [Nd.id]; omega, rfl⟩
  ·rcases List.mem_append.1 hx with hx | hx
   ·have := flat_grow a (a + 1) s (by omega) (by omega) x hx
    exact ⟨this.1, this.2.1, by omega, by omega, this.2.2.2.2⟩
   ·have := flat_grow p (a + (Nd.mk i nm r k s).weigh) ns hp (by omega) x hx
    exact ⟨this.1, this.2.1, by omega, by omega, this.2.2.2.2⟩
def edCode : EdEr → Int
 | .er e => errNum (some e)
 | .non => 6
 | .kind => 4
def codeL (l : List Nd) : Int := if l.isEmpty = true then 0 else errNum (validF (rootNd l))
def Leafy (n : Nd) : Prop := n.kind ≠ 0 → n.sub = []
structure Rdy (its : List It) (l : List Nd) (nx : Int) : Prop where
 rep : Rep its l
 numb : Numb l
 grow : Grow its nx
 ids : (its.map fun x => x.n.id).Nodup
 leaf : Nd.Alls Leafy l
def RetEdR (gb : Nat) (r : EdR) (w : World) (en : Ending) (w' : World) : Prop :=
 Chg (OneB gb) w w' ∧ match r with
 | .bad e => en = .returned (.int .i64 (edCode e))
 | .ok l nx => en = .returned (.int .i64 (codeL l)) ∧ (codeL l = 0 → ∃ its, LogI w' gb its nx ∧ Rdy its l nx)
theorem rdy_nil : Rdy [] [] 1 := ⟨fun p => by
 have h : kidsT p [] = [] := by
  unfold kidsT
  split <;> rfl
 rw [h]; rfl, numb_nil, ⟨fun x hx => (List.not_mem_nil hx).elim, fun x hx => (List.not_mem_nil hx).elim⟩, by simp, trivial⟩
theorem Rdy.becF {its : List It} {l : List Nd} {nx : Int} (h : Rdy its l nx) {k : Nat} (hk : nx ≤ k) : underF its k 0 = l ∧ becF its k = codeL l := by
 have h1 : underF its k 0 = l := by
  rw [under_rep h.rep h.numb.nodup h.leaf h.grow k 0 (by omega) (.inl rfl), kids_zero]
 refine ⟨h1, ?_⟩
 unfold Go.Proofs.YtgcmfpcgmkkobaaGreatDoor.becF codeL
 rw [h1]
 have h2 : its.isEmpty = l.isEmpty := by
  cases its with
  | nil =>
   have h3 := h.rep 0
   rw [kids_zero] at h3
   cases l with
   | nil => rfl
   | cons a b => simp at h3
  | cons x xs =>
   cases l with
   | nil =>
    obtain ⟨n, h4, _⟩ := (rep_mem h.rep).1 (List.mem_cons_self (a := x) (l := xs))
    exfalso
    unfold kidsT at h4
    split at h4 <;> simp [fndL] at h4
   | cons a b => rfl
 rw [h2]
theorem becomeR_law {gb : Nat} {v0 : Value} {n0 : Int} {its : List It} {l : List Nd} {nx : Int} {v : Value} {S : Nat → Prop} {w : World} (h : Rdy its l nx) (hnx : 0 ≤ nx) (hb : Blk w gb [v0, .int .i64 n0] 86) (hi : Its w S v its) (hS : ∀ b, S b → b ≠ gb) (hok : (rootNd l).ok) :
  Calls Tryz.prog 84 #[.pointer (some ⟨gb, 0, none⟩), v, .int .i64 nx] w (RetEdR gb (.ok l nx) w) := by
 obtain ⟨h1, h2⟩ := h.becF (k := nx.toNat) (by omega)
 refine (becomeR_any gb v0 n0 its nx nx nx.toNat v S w hb hi hS h.grow (by omega) (by rw [h1]; exact hok)).mono ?_
 rintro en w' ⟨rfl, hc, hL⟩
 rw [h2] at hL ⊢
 exact ⟨hc, rfl, fun e => ⟨its, hL e, h⟩⟩
theorem flat_ids : ∀ (p : Int) (l : List Nd), (flatI p l).map (fun x => x.n.id) = idsL l
 | p, [] => by simp [flatI, idsL]
 | p, .mk i nm r k s :: ns => by
  simp only [flatI, idsL, idsN, List.map_cons, List.map_append]
  rw [flat_ids i s, flat_ids p ns]
  rfl
theorem ids_in {its : List It} {l : List Nd} (h : Rep its l) (hn : (idsL l).Nodup) {x : It} (hx : x ∈ its) : x.n.id ∈ idsL l := by
 obtain ⟨n, h1, _⟩ := item_fnd h hn hx
 exact fndL_iff.2 ⟨n, h1⟩
theorem ren_numb {t : Nd} {nx : Int} (h : 1 ≤ nx) : Numb [renN nx t] := ⟨by simpa [idsL] using ren_nodup nx t, fun x hx => by
 have := ren_ids nx t x (by simpa [idsL] using hx)
 omega⟩
theorem leafy_ren {t : Nd} {nx : Int} (h : t.All PlainW) : (renN nx t).All Leafy := by
 have h1 : t.All Leafy := Nd.All.imp (fun n hn => hn.2.2.2.2.2) t h
 exact (key t nx h1)
where
 key (t : Nd) : ∀ nx : Int, t.All Leafy → (renN nx t).All Leafy := by
  refine Nd.rec (motive_1 := fun n => ∀ a : Int, n.All Leafy → (renN a n).All Leafy) (motive_2 := fun l => ∀ a : Int, Nd.Alls Leafy l → Nd.Alls Leafy (renL a l)) ?_ ?_ ?_ t
  ·intro i nm r k s ih a h
   refine ⟨fun hk => ?_, ih (a + 1) h.2⟩
   have hs : s = [] := h.1 hk
   subst hs
   rfl
  ·intro a h; trivial
  ·intro n ns h1 h2 a h
   exact ⟨h1 a h.1, h2 _ h.2⟩
mutual
theorem leafy_addN {into : Int} {t : Nd} (ht : t.All Leafy) : ∀ n : Nd, n.All Leafy → (idsN n).Nodup → (∀ q, fndN into n = some q → q.kind = 0) → (mapN into (addSub t) n).All Leafy
 | .mk i nm r k s, h, hn, hq => by
  simp only [idsN, List.nodup_cons] at hn
  have e : mapN into (addSub t) (.mk i nm r k s) = .mk i nm r k (mapL into (addSub t) s ++ if i = into then [t] else []) := by
   rw [mapN]
   split <;> simp [addSub, Nd.withSub, Nd.sub]
  rw [e]
  by_cases hi : i = into
  ·have hk : k = 0 := hq (.mk i nm r k s) (by rw [fndN, if_pos hi])
   rw [if_pos hi]
   refine ⟨fun h9 => absurd hk h9, alls_append _ _ ?_ ⟨ht, trivial⟩⟩
   rw [mapL_no s (by rw [← hi]; exact hn.1)]
   exact h.2
  ·rw [if_neg hi, List.append_nil]
   refine ⟨fun h9 => ?_, leafy_addL ht s h.2 hn.2 fun q h9 => hq q (by rw [fndN, if_neg hi]; exact h9)⟩
   have hs : s = [] := h.1 h9
   subst hs; rfl
theorem leafy_addL {into : Int} {t : Nd} (ht : t.All Leafy) : ∀ l : List Nd, Nd.Alls Leafy l → (idsL l).Nodup → (∀ q, fndL into l = some q → q.kind = 0) → Nd.Alls Leafy (mapL into (addSub t) l)
 | [], _, _, _ => trivial
 | n :: ns, h, hn, hq => by
  simp only [idsL] at hn
  rw [List.nodup_append] at hn
  refine ⟨leafy_addN ht n h.1 hn.1 fun q h9 => hq q (by rw [fndL, h9]), leafy_addL ht ns h.2 hn.2.1 fun q h9 => hq q ?_⟩
  have h2 : into ∉ idsN n := fun e => hn.2.2 into e into (fndL_iff.2 ⟨q, h9⟩) rfl
  rw [fndL, fndN_no into n h2]
  exact h9
end
theorem Grow.app {its its2 : List It} {a b : Int} (h : Grow its a) (hab : a ≤ b) (h2 : ∀ x ∈ its2, 0 ≤ x.ar ∧ x.ar < x.n.id ∧ x.n.id < b) : Grow (its ++ its2) b :=
 ⟨fun x hx => (List.mem_append.1 hx).elim (h.up x) (fun h9 => ⟨(h2 x h9).1, (h2 x h9).2.1⟩), fun x hx => (List.mem_append.1 hx).elim (fun h9 => by have := h.le x h9; omega) (fun h9 => (h2 x h9).2.2)⟩
theorem ids_app {its its2 : List It} {a : Int} (h : (its.map fun x => x.n.id).Nodup) (h2 : (its2.map fun x => x.n.id).Nodup) (hl : ∀ x ∈ its, x.n.id < a) (hr : ∀ x ∈ its2, a ≤ x.n.id) : ((its ++ its2).map fun x => x.n.id).Nodup := by
 rw [List.map_append, List.nodup_append]
 refine ⟨h, h2, fun x hx y hy e => ?_⟩
 obtain ⟨u, hu, rfl⟩ := List.mem_map.1 hx
 obtain ⟨v, hv, rfl⟩ := List.mem_map.1 hy
 have := hl u hu
 have := hr v hv
 omega
theorem flat_one {p nx : Int} {t : Nd} (hp : 0 ≤ p) (hpn : p < nx) : ∀ x ∈ flatI p [renN nx t], 0 ≤ x.ar ∧ x.ar < x.n.id ∧ nx ≤ x.n.id ∧ x.n.id < nx + t.weigh ∧ x.n.sub = [] := by
 have h := flat_grow p nx [t] hp hpn
 simpa [renL, Nd.weighs] using h
theorem flat_idsN {p nx : Int} {t : Nd} : ((flatI p [renN nx t]).map fun x => x.n.id).Nodup := by
 rw [flat_ids]
 simpa [idsL] using ren_nodup nx t
theorem Rdy.add0 {its : List It} {l : List Nd} {nx : Int} {t : Nd} (h : Rdy its l nx) (hnx : 1 ≤ nx) (hlt : ∀ x ∈ idsL l, x < nx) (ht : t.All PlainW) : Rdy (its ++ flatI 0 [renN nx t]) (l ++ [renN nx t]) (nx + t.weigh) where
 rep := rep_add0 h.rep h.numb (ren_numb hnx) fun x hx e => by have := (ren_ids nx t x hx).1; have := hlt x e; omega
 numb := ⟨by
  rw [idsL_app', List.nodup_append]
  refine ⟨h.numb.nodup, (ren_numb hnx).nodup, fun x hx y hy e => ?_⟩
  have := (ren_ids nx t y (by simpa [idsL] using hy)).1
  have := hlt x hx
  omega, fun x hx => by
  rw [idsL_app'] at hx
  exact (List.mem_append.1 hx).elim (h.numb.pos x) ((ren_numb hnx).pos x)⟩
 grow := h.grow.app (by omega) fun x hx => by have := flat_one (t := t) (by omega) (by omega) x hx; exact ⟨this.1, this.2.1, this.2.2.2.1⟩
 ids := ids_app h.ids flat_idsN (fun x hx => hlt _ (ids_in h.rep h.numb.nodup hx)) (fun x hx => (flat_one (t := t) (by omega) (by omega) x hx).2.2.1)
 leaf := alls_append _ _ h.leaf ⟨leafy_ren ht, trivial⟩
where
 idsL_app' {a b : List Nd} : idsL (a ++ b) = idsL a ++ idsL b := by rw [idsL_flat, idsL_flat, idsL_flat, List.flatMap_append]
mutual
theorem ids_addN {into : Int} {t : Nd} : ∀ n : Nd, (idsN n).Nodup → (idsN (mapN into (addSub t) n)).Perm (idsN n ++ if into ∈ idsN n then idsN t else [])
 | .mk i nm r k s, hn => by
  simp only [idsN, List.nodup_cons] at hn
  have e : mapN into (addSub t) (.mk i nm r k s) = .mk i nm r k (mapL into (addSub t) s ++ if i = into then [t] else []) := by
   rw [mapN]
   split <;> simp [addSub, Nd.withSub, Nd.sub]
  rw [e]
  by_cases hi : i = into
  ·subst hi
   rw [if_pos rfl, mapL_no s hn.1, if_pos (by rw [idsN]; exact List.mem_cons_self ..), idsN, idsN, idsL_append]
   simp [idsL]
  ·have ih := ids_addL (into := into) (t := t) s hn.2
   rw [if_neg hi, List.append_nil, idsN, idsN]
   have hm : (into ∈ i :: idsL s) ↔ into ∈ idsL s := by
    rw [List.mem_cons]
    exact ⟨fun h => h.resolve_left (fun e => hi e.symm), .inr⟩
   simp only [hm, List.cons_append]
   exact ih.cons i
theorem ids_addL {into : Int} {t : Nd} : ∀ l : List Nd, (idsL l).Nodup → (idsL (mapL into (addSub t) l)).Perm (idsL l ++ if into ∈ idsL l then idsN t else [])
 | [], _ => by simp [mapL, idsL]
 | n :: ns, hn => by
  simp only [idsL] at hn
  rw [List.nodup_append] at hn
  have h1 := ids_addN (into := into) (t := t) n hn.1
  have h2 := ids_addL (into := into) (t := t) ns hn.2.1
  rw [mapL, idsL, idsL]
  refine (h1.append h2).trans ?_
  by_cases hi : into ∈ idsN n
  ·have h3 : into ∉ idsL ns := fun e => hn.2.2 into hi into e rfl
   rw [if_pos hi, if_neg h3, if_pos (List.mem_append_left _ hi), List.append_nil, List.append_assoc, List.append_assoc]
   exact List.Perm.append_left _ List.perm_append_comm
  ·rw [if_neg hi, List.append_nil]
   have hm : (into ∈ idsN n ++ idsL ns) ↔ into ∈ idsL ns := by
    rw [List.mem_append]
    exact ⟨fun h => h.resolve_left hi, .inr⟩
   simp only [hm, List.append_assoc]
   exact List.Perm.refl _
end
theorem Rdy.addIn {its : List It} {l : List Nd} {nx into : Int} {t q : Nd} (h : Rdy its l nx) (hnx : 1 ≤ nx) (hlt : ∀ x ∈ idsL l, x < nx) (ht : t.All PlainW) (hq : fndL into l = some q) (hk : q.kind = 0) :
  Rdy (its ++ flatI into [renN nx t]) (grpT into (setId into (addSub (renN nx t))) l) (nx + t.weigh) := by
 have hi : into ∈ idsL l := fndL_iff.2 ⟨q, hq⟩
 have hi1 := h.numb.pos into hi
 have hi2 := hlt into hi
 have hp := ids_addL (into := into) (t := renN nx t) l h.numb.nodup
 rw [if_pos hi] at hp
 have hnd : (idsL l ++ idsN (renN nx t)).Nodup := by
  rw [List.nodup_append]
  refine ⟨h.numb.nodup, ren_nodup nx t, fun x hx y hy e => ?_⟩
  have := (ren_ids nx t y hy).1
  have := hlt x hx
  omega
 exact {
  rep := rep_add h.rep h.numb (ren_numb hnx) (fun x hx e => by have := (ren_ids nx t x hx).1; have := hlt x e; omega) hi
  numb := by
   rw [grp_mapL l h.numb.nodup]
   refine ⟨hp.nodup_iff.2 hnd, fun x hx => ?_⟩
   rcases List.mem_append.1 (hp.mem_iff.1 hx) with hx | hx
   ·exact h.numb.pos x hx
   ·have := (ren_ids nx t x hx).1; omega
  grow := h.grow.app (by omega) fun x hx => by have := flat_one (t := t) (by omega) (by omega) x hx; exact ⟨this.1, this.2.1, this.2.2.2.1⟩
  ids := ids_app h.ids flat_idsN (fun x hx => hlt _ (ids_in h.rep h.numb.nodup hx)) (fun x hx => (flat_one (t := t) (by omega) (by omega) x hx).2.2.1)
  leaf := by
   rw [grp_mapL l h.numb.nodup]
   exact leafy_addL (leafy_ren ht) l h.leaf h.numb.nodup fun q' h9 => by rw [hq] at h9; cases h9; exact hk }
end Go.Proofs.YtgcmfpcgmkkobaaGreatDoor
