/-
  What SchemaError tells is what Valid tells: the plain law.
-/
import Derived.Test.YtkchmgjmecojcaaGreatDoorRefName
import Derived.Test.YtkchmgjmecojcaaGreatDoorProj
set_option linter.unusedVariables false
set_option linter.unusedSimpArgs false
namespace Go.Proofs.YtkchmgjmecojcaaGreatDoor
open Go.RowKit
def errNum : Option Er → Int
 | none => 0
 | some .text => 1
 | some .bound => 2
 | some .shape => 3
 | some .name => 5
mutual
def fullN : Nd → Int → Int → Nat → List Pl
 | .mk i n r k s, d, a, at0 => ⟨.mk i n r k s, d, a⟩ :: fullL s (d + 1) at0 (at0 + 1)
def fullL : List Nd → Int → Int → Nat → List Pl
 | [], _, _, _ => []
 | n :: ns, d, a, at0 => fullN n d a at0 ++ fullL ns d a (at0 + n.weigh)
end
mutual
theorem fullN_len : ∀ (n : Nd) (d a : Int) (at0 : Nat), (fullN n d a at0).length = n.weigh
 | .mk i n r k s, d, a, at0 => by simp only [fullN, List.length_cons, fullL_len s, Nd.weigh]; omega
theorem fullL_len : ∀ (l : List Nd) (d a : Int) (at0 : Nat), (fullL l d a at0).length = Nd.weighs l
 | [], d, a, at0 => rfl
 | n :: ns, d, a, at0 => by simp only [fullL, List.length_append, fullN_len n, fullL_len ns, Nd.weighs]
end
mutual
theorem flatN_full : ∀ (n : Nd) (l : List Pl) (d a : Int), l.length + n.weigh ≤ 2000 → d + n.high ≤ 101 → flatN l n d a = l ++ fullN n d a l.length
 | .mk i n r k s, l, d, a, h1, h2 => by
  simp only [Nd.weigh] at h1
  simp only [Nd.high] at h2
  simp only [flatN, fullN]
  rw [if_neg (by omega), flatL_full s _ _ _ (by simp; omega) (by omega)]
  simp
theorem flatL_full : ∀ (s : List Nd) (l : List Pl) (d a : Int), l.length + Nd.weighs s ≤ 2000 → d + Nd.highs s ≤ 101 → flatL l s d a = l ++ fullL s d a l.length
 | [], l, d, a, h1, h2 => by simp [flatL, fullL]
 | n :: ns, l, d, a, h1, h2 => by
  simp only [Nd.weighs] at h1
  simp only [Nd.highs] at h2
  simp only [flatL, fullL]
  rw [flatN_full n l d a (by omega) (by omega), flatL_full ns _ _ _ (by simp only [List.length_append, fullN_len]; omega) (by omega)]
  simp only [List.length_append, fullN_len, List.append_assoc]
end
mutual
theorem flatN_grow : ∀ (n : Nd) (l : List Pl) (d a : Int), ∃ m, flatN l n d a = l ++ m
 | .mk i n r k s, l, d, a => by
  simp only [flatN]
  split
  ·exact ⟨[], by simp⟩
  ·obtain ⟨m, h⟩ := flatL_grow s (l ++ [⟨.mk i n r k s, d, a⟩]) (d + 1) l.length
   exact ⟨⟨.mk i n r k s, d, a⟩ :: m, by rw [h]; simp⟩
theorem flatL_grow : ∀ (s : List Nd) (l : List Pl) (d a : Int), ∃ m, flatL l s d a = l ++ m
 | [], l, d, a => ⟨[], by simp [flatL]⟩
 | n :: ns, l, d, a => by
  simp only [flatL]
  obtain ⟨m1, h1⟩ := flatN_grow n l d a
  obtain ⟨m2, h2⟩ := flatL_grow ns (flatN l n d a) d a
  exact ⟨m1 ++ m2, by rw [h2, h1]; simp⟩
end
mutual
theorem flatN_small : ∀ (n : Nd) (l : List Pl) (d a : Int), d ≤ 100 → (flatN l n d a).length ≤ 40 → (∀ p ∈ flatN l n d a, p.deep ≤ 6) → l.length + n.weigh ≤ 40 ∧ d + n.high ≤ 7
 | .mk i n r k s, l, d, a, hd, h1, h2 => by
  obtain ⟨m, hm⟩ := flatN_grow (.mk i n r k s) l d a
  have hl : l.length ≤ 40 := by rw [hm, List.length_append] at h1; omega
  simp only [flatN] at h1 h2
  rw [if_neg (by omega)] at h1 h2
  obtain ⟨m2, hm2⟩ := flatL_grow s (l ++ [⟨.mk i n r k s, d, a⟩]) (d + 1) l.length
  have hd6 : d ≤ 6 := h2 ⟨.mk i n r k s, d, a⟩ (by rw [hm2]; simp)
  have h3 := flatL_small s (l ++ [⟨.mk i n r k s, d, a⟩]) (d + 1) l.length (by omega) h1 h2
  simp only [List.length_append, List.length_cons, List.length_nil] at h3
  simp only [Nd.weigh, Nd.high]
  refine ⟨by omega, ?_⟩
  rcases h3.2 with h4 | h4
  ·subst h4; simp only [Nd.highs]; omega
  ·omega
theorem flatL_small : ∀ (s : List Nd) (l : List Pl) (d a : Int), d ≤ 100 → (flatL l s d a).length ≤ 40 → (∀ p ∈ flatL l s d a, p.deep ≤ 6) → l.length + Nd.weighs s ≤ 40 ∧ (s = [] ∨ d + Nd.highs s ≤ 7)
 | [], l, d, a, hd, h1, h2 => ⟨by simpa [flatL, Nd.weighs] using h1, .inl rfl⟩
 | n :: ns, l, d, a, hd, h1, h2 => by
  simp only [flatL] at h1 h2
  obtain ⟨m2, hm2⟩ := flatL_grow ns (flatN l n d a) d a
  have h3 := flatN_small n l d a hd (by rw [hm2, List.length_append] at h1; omega) (fun p hp => h2 p (by rw [hm2]; exact List.mem_append_left _ hp))
  have h5 : flatN l n d a = l ++ fullN n d a l.length := flatN_full n l d a (by omega) (by omega)
  have h4 := flatL_small ns (flatN l n d a) d a hd h1 h2
  rw [h5, List.length_append, fullN_len] at h4
  simp only [Nd.weighs, Nd.highs]
  refine ⟨by omega, .inr ?_⟩
  rcases h4.2 with h6 | h6
  ·subst h6; simp only [Nd.highs]; omega
  ·omega
end
mutual
theorem fullN_deep : ∀ (n : Nd) (d a : Int) (at0 : Nat), ∀ p ∈ fullN n d a at0, p.deep < d + n.high
 | .mk i n r k s, d, a, at0, p, hp => by
  simp only [fullN, List.mem_cons] at hp
  simp only [Nd.high]
  rcases hp with rfl | hp
  ·simp only; omega
  ·have := fullL_deep s (d + 1) at0 (at0 + 1) p hp
   omega
theorem fullL_deep : ∀ (l : List Nd) (d a : Int) (at0 : Nat), ∀ p ∈ fullL l d a at0, p.deep < d + Nd.highs l
 | [], d, a, at0, p, hp => by cases hp
 | n :: ns, d, a, at0, p, hp => by
  simp only [fullL, List.mem_append] at hp
  simp only [Nd.highs]
  rcases hp with hp | hp
  ·have := fullN_deep n d a at0 p hp; omega
  ·have := fullL_deep ns d a _ p hp; omega
end
theorem bound_iff (nd : Nd) : ((flatOf nd).length ≤ 40 ∧ ∀ p ∈ flatOf nd, p.deep ≤ 6) ↔ (walkF v1F nd 1 0).1 = true := by
 constructor
 ·rintro ⟨h1, h2⟩
  have h3 := flatN_small nd [] 1 (-1) (by omega) h1 h2
  simp only [List.length_nil] at h3
  rw [v1_of nd 1 0 (by omega) (by omega)]
 ·intro h
  have h1 := v1_high nd 1 0 h
  have h2 := v1_count nd 1 0 h
  have h3 : flatOf nd = fullN nd 1 (-1) 0 := by
   have := flatN_full nd [] 1 (-1) (by simp only [List.length_nil]; omega) (by omega)
   simpa [flatOf] using this
  rw [h3]
  refine ⟨by rw [fullN_len]; omega, fun p hp => ?_⟩
  have := fullN_deep nd 1 (-1) 0 p hp
  omega
theorem flat_is_full {nd : Nd} (h1 : (flatOf nd).length ≤ 40) (h2 : ∀ p ∈ flatOf nd, p.deep ≤ 6) : flatOf nd = fullN nd 1 (-1) 0 := by
 have h3 := flatN_small nd [] 1 (-1) (by omega) h1 h2
 simp only [List.length_nil] at h3
 have := flatN_full nd [] 1 (-1) (by simp only [List.length_nil]; omega) (by omega)
 simpa [flatOf] using this
theorem allOk_tail {L : List Pl} {x : Pl} {F : Nat → Pl → Prop} : AllOk (x :: L) F ↔ ∀ i p, L[i]? = some p → F (i + 1) p := by
 constructor
 ·intro h i p hp
  exact h (i + 1) p (by omega) (by simpa using hp)
 ·intro h i p h1 hp
  obtain ⟨j, rfl⟩ : ∃ j, i = j + 1 := ⟨i - 1, by omega⟩
  exact h j p (by simpa using hp)
mutual
theorem fullN_P {P : Nd → Prop} : ∀ (n : Nd) (d a : Int) (at0 : Nat), (∀ p ∈ fullN n d a at0, P p.n) ↔ n.All P
 | .mk i n r k s, d, a, at0 => by
  simp only [fullN, List.mem_cons, forall_eq_or_imp, Nd.All]
  rw [fullL_P s]
theorem fullL_P {P : Nd → Prop} : ∀ (l : List Nd) (d a : Int) (at0 : Nat), (∀ p ∈ fullL l d a at0, P p.n) ↔ Nd.Alls P l
 | [], d, a, at0 => by simp [fullL, Nd.Alls]
 | n :: ns, d, a, at0 => by
  simp only [fullL, List.mem_append, Nd.Alls]
  rw [← fullN_P n d a at0, ← fullL_P ns d a (at0 + n.weigh)]
  exact ⟨fun h => ⟨fun p hp => h p (.inl hp), fun p hp => h p (.inr hp)⟩, fun h p hp => hp.elim (h.1 p) (h.2 p)⟩
end
mutual
theorem fullN_ids : ∀ (n : Nd) (d a : Int) (at0 : Nat), (fullN n d a at0).map (fun p => p.n.id) = idsN n
 | .mk i n r k s, d, a, at0 => by
  simp only [fullN, List.map_cons, idsN]
  rw [fullL_ids s]
  rfl
theorem fullL_ids : ∀ (l : List Nd) (d a : Int) (at0 : Nat), (fullL l d a at0).map (fun p => p.n.id) = idsL l
 | [], d, a, at0 => rfl
 | n :: ns, d, a, at0 => by simp only [fullL, List.map_append, fullN_ids n, fullL_ids ns, idsL]
end
mutual
theorem fullN_around : ∀ (n : Nd) (d a : Int) (at0 : Nat), ∀ p ∈ fullN n d a at0, p = ⟨n, d, a⟩ ∨ ((at0 : Int) ≤ p.around ∧ p.around < at0 + n.weigh)
 | .mk i n r k s, d, a, at0, p, hp => by
  simp only [fullN, List.mem_cons] at hp
  rcases hp with rfl | hp
  ·exact .inl rfl
  ·rcases fullL_around s (d + 1) at0 (at0 + 1) p hp with ⟨m, hm, rfl⟩ | h
   ·refine .inr ⟨Int.le_refl _, ?_⟩
    simp only [Nd.weigh]; omega
   ·refine .inr ⟨by omega, ?_⟩
    simp only [Nd.weigh]; omega
theorem fullL_around : ∀ (l : List Nd) (d a : Int) (at0 : Nat), ∀ p ∈ fullL l d a at0, (∃ m, m ∈ l ∧ p = ⟨m, d, a⟩) ∨ ((at0 : Int) ≤ p.around ∧ p.around < at0 + Nd.weighs l)
 | [], d, a, at0, p, hp => by cases hp
 | n :: ns, d, a, at0, p, hp => by
  simp only [fullL, List.mem_append] at hp
  simp only [Nd.weighs]
  rcases hp with hp | hp
  ·rcases fullN_around n d a at0 p hp with rfl | h
   ·exact .inl ⟨n, List.mem_cons_self .., rfl⟩
   ·exact .inr ⟨h.1, by omega⟩
  ·rcases fullL_around ns d a _ p hp with ⟨m, hm, rfl⟩ | h
   ·exact .inl ⟨m, List.mem_cons_of_mem _ hm, rfl⟩
   ·exact .inr ⟨by omega, by omega⟩
end
theorem full_direct : ∀ (l : List Nd) (d a : Int) (at0 : Nat), ∀ m ∈ l, (⟨m, d, a⟩ : Pl) ∈ fullL l d a at0
 | [], d, a, at0, m, hm => by cases hm
 | .mk i n r k s :: ns, d, a, at0, m, hm => by
  simp only [fullL, fullN, List.mem_append, List.mem_cons]
  rcases List.mem_cons.1 hm with rfl | hm
  ·exact .inl (.inl rfl)
  ·exact .inr (full_direct ns d a _ m hm)
def Apart (q p : Pl) : Prop := ¬ (q.around = p.around ∧ q.n.name = p.n.name)
def SubNames (n : Nd) : Prop := (n.sub.map Nd.name).Nodup
mutual
theorem pairN : ∀ (n : Nd) (d a : Int) (at0 : Nat), a < at0 → ((fullN n d a at0).Pairwise Apart ↔ n.All SubNames)
 | .mk i nm r k s, d, a, at0, ha => by
  simp only [fullN, List.pairwise_cons, Nd.All]
  rw [pairL s (d + 1) at0 (at0 + 1) (by omega)]
  constructor
  ·rintro ⟨_, h⟩
   exact h
  ·intro h
   refine ⟨fun p hp e => ?_, h⟩
   have e1 : a = p.around := e.1
   rcases fullL_around s (d + 1) at0 (at0 + 1) p hp with ⟨m, _, rfl⟩ | h2
   ·simp only at e1; omega
   ·omega
theorem pairL : ∀ (l : List Nd) (d a : Int) (at0 : Nat), a < at0 → ((fullL l d a at0).Pairwise Apart ↔ (l.map Nd.name).Nodup ∧ Nd.Alls SubNames l)
 | [], d, a, at0, ha => by simp [fullL, Nd.Alls]
 | n :: ns, d, a, at0, ha => by
  simp only [fullL, List.pairwise_append, List.map_cons, List.nodup_cons, Nd.Alls]
  rw [pairN n d a at0 ha, pairL ns d a (at0 + n.weigh) (by omega)]
  constructor
  ·rintro ⟨h1, ⟨h2, h3⟩, h4⟩
   refine ⟨⟨fun hm => ?_, h2⟩, h1, h3⟩
   obtain ⟨m, hm1, hm2⟩ := List.mem_map.1 hm
   have h5 : (⟨n, d, a⟩ : Pl) ∈ fullN n d a at0 := by cases n; simp only [fullN, List.mem_cons, true_or]
   exact h4 _ h5 _ (full_direct ns d a _ m hm1) ⟨rfl, hm2.symm⟩
  ·rintro ⟨⟨h1, h2⟩, h3, h4⟩
   refine ⟨h3, ⟨h2, h4⟩, fun x hx y hy e => ?_⟩
   obtain ⟨e1, e2⟩ := e
   rcases fullN_around n d a at0 x hx with rfl | hx2
   ·rcases fullL_around ns d a _ y hy with ⟨m, hm, rfl⟩ | hy2
    ·exact h1 (List.mem_map.2 ⟨m, hm, e2.symm⟩)
    ·simp only at e1; omega
   ·rcases fullL_around ns d a _ y hy with ⟨m, hm, rfl⟩ | hy2
    ·simp only at e1; omega
    ·omega
end
mutual
theorem down_all {N : Nd → Prop} : ∀ n : Nd, n.All N ↔ N n ∧ n.All (fun x => ∀ y ∈ x.sub, N y)
 | .mk i nm r k s => by
  simp only [Nd.All]
  rw [down_alls s]
  exact Iff.rfl
theorem down_alls {N : Nd → Prop} : ∀ l : List Nd, Nd.Alls N l ↔ (∀ x ∈ l, N x) ∧ Nd.Alls (fun x => ∀ y ∈ x.sub, N y) l
 | [] => by simp [Nd.Alls]
 | n :: ns => by
  simp only [Nd.Alls, List.mem_cons, forall_eq_or_imp]
  rw [down_all n, down_alls ns]
  exact ⟨fun h => ⟨⟨h.1.1, h.2.1⟩, h.1.2, h.2.2⟩, fun h => ⟨⟨h.1.1, h.2.1⟩, h.1.2, h.2.2⟩⟩
end
theorem namesB_iff (l : List Nd) : namesB l = true ↔ (∀ x ∈ l, isNameB x.name = true) ∧ (l.map Nd.name).Nodup := by
 unfold namesB
 rw [Bool.and_eq_true, List.all_eq_true, decide_eq_true_eq]
theorem pairwise_of {L : List Pl} {R : Pl → Pl → Prop} : L.Pairwise R ↔ ∀ (i : Nat) p, L[i]? = some p → ∀ (k : Nat) q, k < i → L[k]? = some q → R q p := by
 rw [List.pairwise_iff_getElem]
 constructor
 ·intro h i p hp k q hk hq
  obtain ⟨h1, rfl⟩ := List.getElem?_eq_some_iff.1 hp
  obtain ⟨h2, rfl⟩ := List.getElem?_eq_some_iff.1 hq
  exact h k i h2 h1 hk
 ·intro h i j hi hj hij
  exact h j _ (List.getElem?_eq_getElem hj) i _ hij (List.getElem?_eq_getElem hi)
theorem mem_iff_get {L : List Pl} {P : Pl → Prop} : (∀ p ∈ L, P p) ↔ ∀ (i : Nat) p, L[i]? = some p → P p :=
 ⟨fun h i p hp => h p (List.mem_of_getElem? hp), fun h p hp => by obtain ⟨i, hi⟩ := List.getElem?_of_mem hp; exact h i p hi⟩
section
variable {nd : Nd} {L : List Pl} (hL : L = fullN nd 1 (-1) 0)
include hL
theorem fit_iff : AllOk L FitOk ↔ (walkF (allF v3F) nd 0 ()).1 = true := by
 obtain ⟨i, nm, r, k, s⟩ := nd
 subst hL
 simp only [fullN]
 rw [allOk_tail]
 have h1 : (∀ (i' : Nat) p, (fullL s (1 + 1) (0 : Nat) (0 + 1))[i']? = some p → FitOk (i' + 1) p) ↔ Nd.Alls (fun n => (v3F n ()).1 = true) s := by
  rw [← fullL_P s (1 + 1) (0 : Nat) (0 + 1), mem_iff_get]
  refine forall_congr' fun i' => forall_congr' fun p => imp_congr_right fun _ => ?_
  simp only [FitOk, v3F, Bool.and_eq_true, decide_eq_true_eq, beq_iff_eq]
  constructor
  ·rintro ⟨a1, a2, a3, a4, a5⟩
   refine ⟨⟨⟨⟨a1, a2⟩, a3⟩, a4⟩, ?_⟩
   by_cases h0 : p.n.kind = 0
   ·have := a5.1 h0
    cases hs : p.n.sub with
    | nil => rw [hs] at this; exact absurd rfl this
    | cons x xs => simp [h0]
   ·cases hs : p.n.sub with
    | nil => simp [h0]
    | cons x xs => rw [hs] at a5; exact absurd (a5.2 (by simp)) h0
  ·rintro ⟨⟨⟨⟨a1, a2⟩, a3⟩, a4⟩, a5⟩
   refine ⟨a1, a2, a3, a4, ?_⟩
   by_cases h0 : p.n.kind = 0
   ·simp only [h0, decide_true, Bool.not_true] at a5
    refine ⟨fun _ h => ?_, fun _ => h0⟩
    rw [List.eq_nil_of_length_eq_zero h] at a5
    cases a5
   ·simp only [h0, decide_false, Bool.not_false] at a5
    refine ⟨fun h => absurd h h0, fun h => ?_⟩
    rw [List.isEmpty_iff.1 a5.symm] at h
    exact absurd rfl h
 have h2 : (walkF (allF v3F) (.mk i nm r k s) 0 ()).1 = true ↔ Nd.Alls (fun n => (v3F n ()).1 = true) s := by
  constructor
  ·intro h
   exact (walk_root (P := fun n => (v3F n ()).1 = true) (fun n d s hd hf => by simp only [allF, if_neg (show ¬ d = 0 by omega)] at hf; exact hf) (.mk i nm r k s) () h).1
  ·intro h
   simp only [walkF]
   have hf : allF v3F (.mk i nm r k s) 0 () = (true, ()) := by simp [allF]
   rw [hf]
   simp only
   rw [walk_ofL (P := fun n => (v3F n ()).1 = true) (fun n d hd hp => by simp only [allF, if_neg (show ¬ d = 0 by omega)]; exact hp) s (0 + 1) (by omega) h]
 rw [h2]
 exact h1
theorem name_iff : AllOk L (NameOk L) ↔ (walkF v4F nd 0 ()).1 = true := by
 obtain ⟨i, nm, r, k, s⟩ := nd
 subst hL
 simp only [fullN]
 rw [allOk_tail]
 have h1 : (∀ (i' : Nat) p, (fullL s (1 + 1) (0 : Nat) (0 + 1))[i']? = some p → NameOk (⟨.mk i nm r k s, 1, -1⟩ :: fullL s (1 + 1) (0 : Nat) (0 + 1)) (i' + 1) p) ↔
   (∀ p ∈ fullL s (1 + 1) (0 : Nat) (0 + 1), isNameB p.n.name = true) ∧ (fullL s (1 + 1) (0 : Nat) (0 + 1)).Pairwise Apart := by
  rw [mem_iff_get, pairwise_of]
  constructor
  ·intro h
   refine ⟨fun i' p hp => (h i' p hp).1, fun i' p hp k' q hk hq => ?_⟩
   exact (h i' p hp).2 (k' + 1) q (by omega) (by omega) (by simpa using hq)
  ·rintro ⟨h2, h3⟩ i' p hp
   refine ⟨h2 i' p hp, fun k' q hk1 hk2 hq => ?_⟩
   obtain ⟨k2, rfl⟩ : ∃ x, k' = x + 1 := ⟨k' - 1, by omega⟩
   exact h3 i' p hp k2 q (by omega) (by simpa using hq)
 have h2 : (walkF v4F (.mk i nm r k s) 0 ()).1 = true ↔ namesB s = true ∧ Nd.Alls (fun n => namesB n.sub = true) s := by
  constructor
  ·intro h
   have := walk_root (P := fun n => namesB n.sub = true) (fun n d s hd hf => hf) (.mk i nm r k s) () h
   exact ⟨this.2, this.1⟩
  ·rintro ⟨ha, hb⟩
   simp only [walkF]
   have hf : v4F (.mk i nm r k s) 0 () = (true, ()) := Prod.ext ha rfl
   rw [hf]
   simp only
   rw [walk_ofL (P := fun n => namesB n.sub = true) (fun n d hd hp => hp) s (0 + 1) (by omega) hb]
 rw [h2]
 refine h1.trans ?_
 rw [fullL_P (P := fun n => isNameB n.name = true), pairL s (1 + 1) (0 : Nat) (0 + 1) (by omega), down_alls, namesB_iff]
 constructor
 ·rintro ⟨⟨a1, a2⟩, a3, a4⟩
  exact ⟨⟨a1, a3⟩, Nd.Alls.imp (fun n h => (namesB_iff n.sub).2 h) s (Nd.Alls.and s a2 a4)⟩
 ·rintro ⟨⟨a1, a2⟩, a3⟩
  exact ⟨⟨a1, Nd.Alls.imp (fun n h => ((namesB_iff n.sub).1 h).1) s a3⟩, a2, Nd.Alls.imp (fun n h => ((namesB_iff n.sub).1 h).2) s a3⟩
theorem num_iff : AllOk L (IdOk L) ↔ (walkF (allF v5F) nd 0 []).1 = true := by
 obtain ⟨i, nm, r, k, s⟩ := nd
 subst hL
 simp only [fullN]
 rw [allOk_tail]
 have h1 : (∀ (i' : Nat) p, (fullL s (1 + 1) (0 : Nat) (0 + 1))[i']? = some p → IdOk (⟨.mk i nm r k s, 1, -1⟩ :: fullL s (1 + 1) (0 : Nat) (0 + 1)) (i' + 1) p) ↔
   (∀ p ∈ fullL s (1 + 1) (0 : Nat) (0 + 1), 1 ≤ p.n.id ∧ p.n.id ≤ 1000) ∧ (fullL s (1 + 1) (0 : Nat) (0 + 1)).Pairwise (fun q p => q.n.id ≠ p.n.id) := by
  rw [mem_iff_get, pairwise_of]
  constructor
  ·intro h
   refine ⟨fun i' p hp => ⟨(h i' p hp).1, (h i' p hp).2.1⟩, fun i' p hp k' q hk hq => ?_⟩
   exact (h i' p hp).2.2 (k' + 1) q (by omega) (by omega) (by simpa using hq)
  ·rintro ⟨h2, h3⟩ i' p hp
   refine ⟨(h2 i' p hp).1, (h2 i' p hp).2, fun k' q hk1 hk2 hq => ?_⟩
   obtain ⟨k2, rfl⟩ : ∃ x, k' = x + 1 := ⟨k' - 1, by omega⟩
   exact h3 i' p hp k2 q (by omega) (by simpa using hq)
 have h3 : ((∀ p ∈ fullL s (1 + 1) (0 : Nat) (0 + 1), 1 ≤ p.n.id ∧ p.n.id ≤ 1000) ∧ (fullL s (1 + 1) (0 : Nat) (0 + 1)).Pairwise (fun q p => q.n.id ≠ p.n.id)) ↔
   (∀ x ∈ idsL s, 1 ≤ x ∧ x ≤ 1000) ∧ (idsL s).Nodup := by
  have e := fullL_ids s (1 + 1) (0 : Nat) (0 + 1)
  rw [← e, List.Nodup, List.pairwise_map]
  refine and_congr_left fun _ => ⟨fun h x hx => ?_, fun h p hp => h _ (List.mem_map_of_mem hp)⟩
  obtain ⟨p, hp, rfl⟩ := List.mem_map.1 hx
  exact h p hp
 have hf : allF v5F (.mk i nm r k s) 0 [] = (true, []) := by simp [allF]
 refine h1.trans (h3.trans ?_)
 simp only [walkF]
 rw [hf]
 simp only
 constructor
 ·rintro ⟨a1, a2⟩
  rw [v5_ofL s (0 + 1) [] (by omega) (by simpa using a2) a1]
 ·intro h
  have := v5_idsL s (0 + 1) [] (by omega) h (by simp)
  exact ⟨this.2.2, by simpa using this.2.1⟩
end
theorem err_law {nd : Nd} {r : Int} (h : ErrSpec nd (flatOf nd) r) : r = errNum (validF nd) := by
 have hb := bound_iff nd
 have many : ¬ ((flatOf nd).length ≤ 40 ∧ ∀ p ∈ flatOf nd, p.deep ≤ 6) → validF nd = some .bound := fun hn => by
  rw [hb] at hn
  unfold validF
  rw [if_pos (by simpa using hn)]
 cases h with
 | many h => rw [many (fun h2 => by omega)]; rfl
 | high h p hp h6 => rw [many (fun h2 => by have := h2.2 p hp; omega)]; rfl
 | root h hd hr =>
  have h1 := hb.1 ⟨h, hd⟩
  have : validF nd = some .shape := by unfold validF; rw [if_neg (by rw [h1]; simp), if_pos hr]
  rw [this]; rfl
 | fit h hd hr hf =>
  have h1 := hb.1 ⟨h, hd⟩
  rw [fit_iff (flat_is_full h hd)] at hf
  have : validF nd = some .shape := by unfold validF; rw [if_neg (by rw [h1]; simp), if_neg (by rw [hr]; simp), if_pos (by simpa using hf)]
  rw [this]; rfl
 | name h hd hr hf hn =>
  have h1 := hb.1 ⟨h, hd⟩
  rw [fit_iff (flat_is_full h hd)] at hf
  rw [name_iff (flat_is_full h hd)] at hn
  have : validF nd = some .name := by unfold validF; rw [if_neg (by rw [h1]; simp), if_neg (by rw [hr]; simp), if_neg (by rw [hf]; simp), if_pos (by simpa using hn)]
  rw [this]; rfl
 | num h hd hr hf hn hi =>
  have h1 := hb.1 ⟨h, hd⟩
  rw [fit_iff (flat_is_full h hd)] at hf
  rw [name_iff (flat_is_full h hd)] at hn
  rw [num_iff (flat_is_full h hd)] at hi
  have : validF nd = some .name := by unfold validF; rw [if_neg (by rw [h1]; simp), if_neg (by rw [hr]; simp), if_neg (by rw [hf]; simp), if_neg (by rw [hn]; simp), if_pos (by simpa using hi)]
  rw [this]; rfl
 | ok h hd hr hf hn hi =>
  have h1 := hb.1 ⟨h, hd⟩
  rw [fit_iff (flat_is_full h hd)] at hf
  rw [name_iff (flat_is_full h hd)] at hn
  rw [num_iff (flat_is_full h hd)] at hi
  have : validF nd = none := by unfold validF; rw [if_neg (by rw [h1]; simp), if_neg (by rw [hr]; simp), if_neg (by rw [hf]; simp), if_neg (by rw [hn]; simp), if_neg (by rw [hi]; simp)]
  rw [this]; rfl
end Go.Proofs.YtkchmgjmecojcaaGreatDoor
