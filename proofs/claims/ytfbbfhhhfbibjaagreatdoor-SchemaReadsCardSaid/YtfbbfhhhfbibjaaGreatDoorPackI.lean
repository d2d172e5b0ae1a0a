/-
  What SchemaError tells is what Valid tells: the plain law.
  Find and Under against FindOf and UnderOf: the plain laws; and the errors' numbers.
  ProjectOf's answer against Project's: the plain law.
  What the row's list gives at seat ZD: the package's variables, the eight errors, the type's handle; and a world that meets the list.
-/
import Derived.Test.YtfbbfhhhfbibjaaGreatDoorPackC
import Derived.Test.YtfbbfhhhfbibjaaGreatDoorPackF
import Derived.Test.YtfbbfhhhfbibjaaGreatDoorPackG
import Derived.Test.YtfbbfhhhfbibjaaGreatDoorPackH
import Derived.Test.YtfbbfhhhfbibjaaGreatDoorCards
import Derived.Test.YtfbbfhhhfbibjaaGreatDoorProg
import Derived.Test.YtfbbfhhhfbibjaaGreatDoorPackE
import Derived.LaidHandle
import Derived.Lay
import Derived.ProofKit
import Derived.OpenShut
import Derived.LaidLaws
set_option linter.unusedVariables false
set_option linter.unusedSimpArgs false
namespace Go.Proofs.YtfbbfhhhfbibjaaGreatDoor
open Go.RowKit

def errNum : Option Er → Int
  | none => 0
  | some .text => 1
  | some .bound => 2
  | some .shape => 3
  | some .name => 5

mutual
/-- All places in a node, with no bound. -/
def fullN : Nd → Int → Int → Nat → List Pl
  | .mk i n r k s, d, a, at0 => ⟨.mk i n r k s, d, a⟩ :: fullL s (d + 1) at0 (at0 + 1)
def fullL : List Nd → Int → Int → Nat → List Pl
  | [], _, _, _ => []
  | n :: ns, d, a, at0 => fullN n d a at0 ++ fullL ns d a (at0 + n.weigh)
end
mutual
theorem fullN_len : ∀ (n : Nd) (d a : Int) (at0 : Nat), (fullN n d a at0).length = n.weigh
  | .mk i n r k s, d, a, at0 => by simp only [fullN, List.length_cons, fullL_len s, Nd.weigh]; omega
theorem fullL_len : ∀ (l : List Nd) (d a : Int) (at0 : Nat), (fullL l d a at0).length = Nd.weighs l
  | [], d, a, at0 => rfl
  | n :: ns, d, a, at0 => by simp only [fullL, List.length_append, fullN_len n, fullL_len ns, Nd.weighs]
end
mutual
theorem flatN_full : ∀ (n : Nd) (l : List Pl) (d a : Int), l.length + n.weigh ≤ 2000 → d + n.high ≤ 101 → flatN l n d a = l ++ fullN n d a l.length
  | .mk i n r k s, l, d, a, h1, h2 => by
    simp only [Nd.weigh] at h1
    simp only [Nd.high] at h2
    simp only [flatN, fullN]
    rw [if_neg (by omega), flatL_full s _ _ _ (by simp; omega) (by omega)]
    simp
theorem flatL_full : ∀ (s : List Nd) (l : List Pl) (d a : Int), l.length + Nd.weighs s ≤ 2000 → d + Nd.highs s ≤ 101 → flatL l s d a = l ++ fullL s d a l.length
  | [], l, d, a, h1, h2 => by simp [flatL, fullL]
  | n :: ns, l, d, a, h1, h2 => by
    simp only [Nd.weighs] at h1
    simp only [Nd.highs] at h2
    simp only [flatL, fullL]
    rw [flatN_full n l d a (by omega) (by omega), flatL_full ns _ _ _ (by simp only [List.length_append, fullN_len]; omega) (by omega)]
    simp only [List.length_append, fullN_len, List.append_assoc]
end
mutual
theorem flatN_grow : ∀ (n : Nd) (l : List Pl) (d a : Int), ∃ m, flatN l n d a = l ++ m
  | .mk i n r k s, l, d, a => by
    simp only [flatN]
    split
    · exact ⟨[], by simp⟩
    · obtain ⟨m, h⟩ := flatL_grow s (l ++ [⟨.mk i n r k s, d, a⟩]) (d + 1) l.length
      exact ⟨⟨.mk i n r k s, d, a⟩ :: m, by rw [h]; simp⟩
theorem flatL_grow : ∀ (s : List Nd) (l : List Pl) (d a : Int), ∃ m, flatL l s d a = l ++ m
  | [], l, d, a => ⟨[], by simp [flatL]⟩
  | n :: ns, l, d, a => by
    simp only [flatL]
    obtain ⟨m1, h1⟩ := flatN_grow n l d a
    obtain ⟨m2, h2⟩ := flatL_grow ns (flatN l n d a) d a
    exact ⟨m1 ++ m2, by rw [h2, h1]; simp⟩
end
mutual
/-- Few places, none too deep: then nothing has been cut. -/
theorem flatN_small : ∀ (n : Nd) (l : List Pl) (d a : Int), d ≤ 100 → (flatN l n d a).length ≤ 40 → (∀ p ∈ flatN l n d a, p.deep ≤ 6) → l.length + n.weigh ≤ 40 ∧ d + n.high ≤ 7
  | .mk i n r k s, l, d, a, hd, h1, h2 => by
    obtain ⟨m, hm⟩ := flatN_grow (.mk i n r k s) l d a
    have hl : l.length ≤ 40 := by rw [hm, List.length_append] at h1; omega
    simp only [flatN] at h1 h2
    rw [if_neg (by omega)] at h1 h2
    obtain ⟨m2, hm2⟩ := flatL_grow s (l ++ [⟨.mk i n r k s, d, a⟩]) (d + 1) l.length
    have hd6 : d ≤ 6 := h2 ⟨.mk i n r k s, d, a⟩ (by rw [hm2]; simp)
    have h3 := flatL_small s (l ++ [⟨.mk i n r k s, d, a⟩]) (d + 1) l.length (by omega) h1 h2
    simp only [List.length_append, List.length_cons, List.length_nil] at h3
    simp only [Nd.weigh, Nd.high]
    refine ⟨by omega, ?_⟩
    rcases h3.2 with h4 | h4
    · subst h4; simp only [Nd.highs]; omega
    · omega
theorem flatL_small : ∀ (s : List Nd) (l : List Pl) (d a : Int), d ≤ 100 → (flatL l s d a).length ≤ 40 → (∀ p ∈ flatL l s d a, p.deep ≤ 6) → l.length + Nd.weighs s ≤ 40 ∧ (s = [] ∨ d + Nd.highs s ≤ 7)
  | [], l, d, a, hd, h1, h2 => ⟨by simpa [flatL, Nd.weighs] using h1, .inl rfl⟩
  | n :: ns, l, d, a, hd, h1, h2 => by
    simp only [flatL] at h1 h2
    obtain ⟨m2, hm2⟩ := flatL_grow ns (flatN l n d a) d a
    have h3 := flatN_small n l d a hd (by rw [hm2, List.length_append] at h1; omega) (fun p hp => h2 p (by rw [hm2]; exact List.mem_append_left _ hp))
    have h5 : flatN l n d a = l ++ fullN n d a l.length := flatN_full n l d a (by omega) (by omega)
    have h4 := flatL_small ns (flatN l n d a) d a hd h1 h2
    rw [h5, List.length_append, fullN_len] at h4
    simp only [Nd.weighs, Nd.highs]
    refine ⟨by omega, .inr ?_⟩
    rcases h4.2 with h6 | h6
    · subst h6; simp only [Nd.highs]; omega
    · omega
end
mutual
theorem fullN_deep : ∀ (n : Nd) (d a : Int) (at0 : Nat), ∀ p ∈ fullN n d a at0, p.deep < d + n.high
  | .mk i n r k s, d, a, at0, p, hp => by
    simp only [fullN, List.mem_cons] at hp
    simp only [Nd.high]
    rcases hp with rfl | hp
    · simp only; omega
    · have := fullL_deep s (d + 1) at0 (at0 + 1) p hp
      omega
theorem fullL_deep : ∀ (l : List Nd) (d a : Int) (at0 : Nat), ∀ p ∈ fullL l d a at0, p.deep < d + Nd.highs l
  | [], d, a, at0, p, hp => by cases hp
  | n :: ns, d, a, at0, p, hp => by
    simp only [fullL, List.mem_append] at hp
    simp only [Nd.highs]
    rcases hp with hp | hp
    · have := fullN_deep n d a at0 p hp; omega
    · have := fullL_deep ns d a _ p hp; omega
end
/-- The bound, told of the places. -/
theorem bound_iff (nd : Nd) : ((flatOf nd).length ≤ 40 ∧ ∀ p ∈ flatOf nd, p.deep ≤ 6) ↔ (walkF v1F nd 1 0).1 = true := by
  constructor
  · rintro ⟨h1, h2⟩
    have h3 := flatN_small nd [] 1 (-1) (by omega) h1 h2
    simp only [List.length_nil] at h3
    rw [v1_of nd 1 0 (by omega) (by omega)]
  · intro h
    have h1 := v1_high nd 1 0 h
    have h2 := v1_count nd 1 0 h
    have h3 : flatOf nd = fullN nd 1 (-1) 0 := by
      have := flatN_full nd [] 1 (-1) (by simp only [List.length_nil]; omega) (by omega)
      simpa [flatOf] using this
    rw [h3]
    refine ⟨by rw [fullN_len]; omega, fun p hp => ?_⟩
    have := fullN_deep nd 1 (-1) 0 p hp
    omega
theorem flat_is_full {nd : Nd} (h1 : (flatOf nd).length ≤ 40) (h2 : ∀ p ∈ flatOf nd, p.deep ≤ 6) : flatOf nd = fullN nd 1 (-1) 0 := by
  have h3 := flatN_small nd [] 1 (-1) (by omega) h1 h2
  simp only [List.length_nil] at h3
  have := flatN_full nd [] 1 (-1) (by simp only [List.length_nil]; omega) (by omega)
  simpa [flatOf] using this

/-- The second and further places of a node's list. -/
theorem allOk_tail {L : List Pl} {x : Pl} {F : Nat → Pl → Prop} : AllOk (x :: L) F ↔ ∀ i p, L[i]? = some p → F (i + 1) p := by
  constructor
  · intro h i p hp
    exact h (i + 1) p (by omega) (by simpa using hp)
  · intro h i p h1 hp
    obtain ⟨j, rfl⟩ : ∃ j, i = j + 1 := ⟨i - 1, by omega⟩
    exact h j p (by simpa using hp)

mutual
theorem fullN_P {P : Nd → Prop} : ∀ (n : Nd) (d a : Int) (at0 : Nat), (∀ p ∈ fullN n d a at0, P p.n) ↔ n.All P
  | .mk i n r k s, d, a, at0 => by
    simp only [fullN, List.mem_cons, forall_eq_or_imp, Nd.All]
    rw [fullL_P s]
theorem fullL_P {P : Nd → Prop} : ∀ (l : List Nd) (d a : Int) (at0 : Nat), (∀ p ∈ fullL l d a at0, P p.n) ↔ Nd.Alls P l
  | [], d, a, at0 => by simp [fullL, Nd.Alls]
  | n :: ns, d, a, at0 => by
    simp only [fullL, List.mem_append, Nd.Alls]
    rw [← fullN_P n d a at0, ← fullL_P ns d a (at0 + n.weigh)]
    exact ⟨fun h => ⟨fun p hp => h p (.inl hp), fun p hp => h p (.inr hp)⟩, fun h p hp => hp.elim (h.1 p) (h.2 p)⟩
end
mutual
theorem fullN_ids : ∀ (n : Nd) (d a : Int) (at0 : Nat), (fullN n d a at0).map (fun p => p.n.id) = idsN n
  | .mk i n r k s, d, a, at0 => by
    simp only [fullN, List.map_cons, idsN]
    rw [fullL_ids s]
    rfl
theorem fullL_ids : ∀ (l : List Nd) (d a : Int) (at0 : Nat), (fullL l d a at0).map (fun p => p.n.id) = idsL l
  | [], d, a, at0 => rfl
  | n :: ns, d, a, at0 => by simp only [fullL, List.map_append, fullN_ids n, fullL_ids ns, idsL]
end
mutual
/-- Where the places in a node say that they lie. -/
theorem fullN_around : ∀ (n : Nd) (d a : Int) (at0 : Nat), ∀ p ∈ fullN n d a at0, p = ⟨n, d, a⟩ ∨ ((at0 : Int) ≤ p.around ∧ p.around < at0 + n.weigh)
  | .mk i n r k s, d, a, at0, p, hp => by
    simp only [fullN, List.mem_cons] at hp
    rcases hp with rfl | hp
    · exact .inl rfl
    · rcases fullL_around s (d + 1) at0 (at0 + 1) p hp with ⟨m, hm, rfl⟩ | h
      · refine .inr ⟨Int.le_refl _, ?_⟩
        simp only [Nd.weigh]; omega
      · refine .inr ⟨by omega, ?_⟩
        simp only [Nd.weigh]; omega
theorem fullL_around : ∀ (l : List Nd) (d a : Int) (at0 : Nat), ∀ p ∈ fullL l d a at0, (∃ m, m ∈ l ∧ p = ⟨m, d, a⟩) ∨ ((at0 : Int) ≤ p.around ∧ p.around < at0 + Nd.weighs l)
  | [], d, a, at0, p, hp => by cases hp
  | n :: ns, d, a, at0, p, hp => by
    simp only [fullL, List.mem_append] at hp
    simp only [Nd.weighs]
    rcases hp with hp | hp
    · rcases fullN_around n d a at0 p hp with rfl | h
      · exact .inl ⟨n, List.mem_cons_self .., rfl⟩
      · exact .inr ⟨h.1, by omega⟩
    · rcases fullL_around ns d a _ p hp with ⟨m, hm, rfl⟩ | h
      · exact .inl ⟨m, List.mem_cons_of_mem _ hm, rfl⟩
      · exact .inr ⟨by omega, by omega⟩
end
theorem full_direct : ∀ (l : List Nd) (d a : Int) (at0 : Nat), ∀ m ∈ l, (⟨m, d, a⟩ : Pl) ∈ fullL l d a at0
  | [], d, a, at0, m, hm => by cases hm
  | .mk i n r k s :: ns, d, a, at0, m, hm => by
    simp only [fullL, fullN, List.mem_append, List.mem_cons]
    rcases List.mem_cons.1 hm with rfl | hm
    · exact .inl (.inl rfl)
    · exact .inr (full_direct ns d a _ m hm)
/-- Not two of one name in one node. -/
def Apart (q p : Pl) : Prop := ¬ (q.around = p.around ∧ q.n.name = p.n.name)
def SubNames (n : Nd) : Prop := (n.sub.map Nd.name).Nodup
mutual
theorem pairN : ∀ (n : Nd) (d a : Int) (at0 : Nat), a < at0 → ((fullN n d a at0).Pairwise Apart ↔ n.All SubNames)
  | .mk i nm r k s, d, a, at0, ha => by
    simp only [fullN, List.pairwise_cons, Nd.All]
    rw [pairL s (d + 1) at0 (at0 + 1) (by omega)]
    constructor
    · rintro ⟨_, h⟩
      exact h
    · intro h
      refine ⟨fun p hp e => ?_, h⟩
      have e1 : a = p.around := e.1
      rcases fullL_around s (d + 1) at0 (at0 + 1) p hp with ⟨m, _, rfl⟩ | h2
      · simp only at e1; omega
      · omega
theorem pairL : ∀ (l : List Nd) (d a : Int) (at0 : Nat), a < at0 → ((fullL l d a at0).Pairwise Apart ↔ (l.map Nd.name).Nodup ∧ Nd.Alls SubNames l)
  | [], d, a, at0, ha => by simp [fullL, Nd.Alls]
  | n :: ns, d, a, at0, ha => by
    simp only [fullL, List.pairwise_append, List.map_cons, List.nodup_cons, Nd.Alls]
    rw [pairN n d a at0 ha, pairL ns d a (at0 + n.weigh) (by omega)]
    constructor
    · rintro ⟨h1, ⟨h2, h3⟩, h4⟩
      refine ⟨⟨fun hm => ?_, h2⟩, h1, h3⟩
      obtain ⟨m, hm1, hm2⟩ := List.mem_map.1 hm
      have h5 : (⟨n, d, a⟩ : Pl) ∈ fullN n d a at0 := by cases n; simp only [fullN, List.mem_cons, true_or]
      exact h4 _ h5 _ (full_direct ns d a _ m hm1) ⟨rfl, hm2.symm⟩
    · rintro ⟨⟨h1, h2⟩, h3, h4⟩
      refine ⟨h3, ⟨h2, h4⟩, fun x hx y hy e => ?_⟩
      obtain ⟨e1, e2⟩ := e
      rcases fullN_around n d a at0 x hx with rfl | hx2
      · rcases fullL_around ns d a _ y hy with ⟨m, hm, rfl⟩ | hy2
        · exact h1 (List.mem_map.2 ⟨m, hm, e2.symm⟩)
        · simp only at e1; omega
      · rcases fullL_around ns d a _ y hy with ⟨m, hm, rfl⟩ | hy2
        · simp only at e1; omega
        · omega
end
mutual
theorem down_all {N : Nd → Prop} : ∀ n : Nd, n.All N ↔ N n ∧ n.All (fun x => ∀ y ∈ x.sub, N y)
  | .mk i nm r k s => by
    simp only [Nd.All]
    rw [down_alls s]
    exact Iff.rfl
theorem down_alls {N : Nd → Prop} : ∀ l : List Nd, Nd.Alls N l ↔ (∀ x ∈ l, N x) ∧ Nd.Alls (fun x => ∀ y ∈ x.sub, N y) l
  | [] => by simp [Nd.Alls]
  | n :: ns => by
    simp only [Nd.Alls, List.mem_cons, forall_eq_or_imp]
    rw [down_all n, down_alls ns]
    exact ⟨fun h => ⟨⟨h.1.1, h.2.1⟩, h.1.2, h.2.2⟩, fun h => ⟨⟨h.1.1, h.2.1⟩, h.1.2, h.2.2⟩⟩
end
theorem namesB_iff (l : List Nd) : namesB l = true ↔ (∀ x ∈ l, isNameB x.name = true) ∧ (l.map Nd.name).Nodup := by
  unfold namesB
  rw [Bool.and_eq_true, List.all_eq_true, decide_eq_true_eq]
theorem pairwise_of {L : List Pl} {R : Pl → Pl → Prop} : L.Pairwise R ↔ ∀ (i : Nat) p, L[i]? = some p → ∀ (k : Nat) q, k < i → L[k]? = some q → R q p := by
  rw [List.pairwise_iff_getElem]
  constructor
  · intro h i p hp k q hk hq
    obtain ⟨h1, rfl⟩ := List.getElem?_eq_some_iff.1 hp
    obtain ⟨h2, rfl⟩ := List.getElem?_eq_some_iff.1 hq
    exact h k i h2 h1 hk
  · intro h i j hi hj hij
    exact h j _ (List.getElem?_eq_getElem hj) i _ hij (List.getElem?_eq_getElem hi)
theorem mem_iff_get {L : List Pl} {P : Pl → Prop} : (∀ p ∈ L, P p) ↔ ∀ (i : Nat) p, L[i]? = some p → P p :=
  ⟨fun h i p hp => h p (List.mem_of_getElem? hp), fun h p hp => by obtain ⟨i, hi⟩ := List.getElem?_of_mem hp; exact h i p hi⟩

section
variable {nd : Nd} {L : List Pl} (hL : L = fullN nd 1 (-1) 0)
include hL
theorem fit_iff : AllOk L FitOk ↔ (walkF (allF v3F) nd 0 ()).1 = true := by
  obtain ⟨i, nm, r, k, s⟩ := nd
  subst hL
  simp only [fullN]
  rw [allOk_tail]
  have h1 : (∀ (i' : Nat) p, (fullL s (1 + 1) (0 : Nat) (0 + 1))[i']? = some p → FitOk (i' + 1) p) ↔ Nd.Alls (fun n => (v3F n ()).1 = true) s := by
    rw [← fullL_P s (1 + 1) (0 : Nat) (0 + 1), mem_iff_get]
    refine forall_congr' fun i' => forall_congr' fun p => imp_congr_right fun _ => ?_
    simp only [FitOk, v3F, Bool.and_eq_true, decide_eq_true_eq, beq_iff_eq]
    constructor
    · rintro ⟨a1, a2, a3, a4, a5⟩
      refine ⟨⟨⟨⟨a1, a2⟩, a3⟩, a4⟩, ?_⟩
      by_cases h0 : p.n.kind = 0
      · have := a5.1 h0
        cases hs : p.n.sub with
        | nil => rw [hs] at this; exact absurd rfl this
        | cons x xs => simp [h0]
      · cases hs : p.n.sub with
        | nil => simp [h0]
        | cons x xs => rw [hs] at a5; exact absurd (a5.2 (by simp)) h0
    · rintro ⟨⟨⟨⟨a1, a2⟩, a3⟩, a4⟩, a5⟩
      refine ⟨a1, a2, a3, a4, ?_⟩
      by_cases h0 : p.n.kind = 0
      · simp only [h0, decide_true, Bool.not_true] at a5
        refine ⟨fun _ h => ?_, fun _ => h0⟩
        rw [List.eq_nil_of_length_eq_zero h] at a5
        cases a5
      · simp only [h0, decide_false, Bool.not_false] at a5
        refine ⟨fun h => absurd h h0, fun h => ?_⟩
        rw [List.isEmpty_iff.1 a5.symm] at h
        exact absurd rfl h
  have h2 : (walkF (allF v3F) (.mk i nm r k s) 0 ()).1 = true ↔ Nd.Alls (fun n => (v3F n ()).1 = true) s := by
    constructor
    · intro h
      exact (walk_root (P := fun n => (v3F n ()).1 = true) (fun n d s hd hf => by simp only [allF, if_neg (show ¬ d = 0 by omega)] at hf; exact hf) (.mk i nm r k s) () h).1
    · intro h
      simp only [walkF]
      have hf : allF v3F (.mk i nm r k s) 0 () = (true, ()) := by simp [allF]
      rw [hf]
      simp only
      rw [walk_ofL (P := fun n => (v3F n ()).1 = true) (fun n d hd hp => by simp only [allF, if_neg (show ¬ d = 0 by omega)]; exact hp) s (0 + 1) (by omega) h]
  rw [h2]
  exact h1
theorem name_iff : AllOk L (NameOk L) ↔ (walkF v4F nd 0 ()).1 = true := by
  obtain ⟨i, nm, r, k, s⟩ := nd
  subst hL
  simp only [fullN]
  rw [allOk_tail]
  have h1 : (∀ (i' : Nat) p, (fullL s (1 + 1) (0 : Nat) (0 + 1))[i']? = some p → NameOk (⟨.mk i nm r k s, 1, -1⟩ :: fullL s (1 + 1) (0 : Nat) (0 + 1)) (i' + 1) p) ↔
      (∀ p ∈ fullL s (1 + 1) (0 : Nat) (0 + 1), isNameB p.n.name = true) ∧ (fullL s (1 + 1) (0 : Nat) (0 + 1)).Pairwise Apart := by
    rw [mem_iff_get, pairwise_of]
    constructor
    · intro h
      refine ⟨fun i' p hp => (h i' p hp).1, fun i' p hp k' q hk hq => ?_⟩
      exact (h i' p hp).2 (k' + 1) q (by omega) (by omega) (by simpa using hq)
    · rintro ⟨h2, h3⟩ i' p hp
      refine ⟨h2 i' p hp, fun k' q hk1 hk2 hq => ?_⟩
      obtain ⟨k2, rfl⟩ : ∃ x, k' = x + 1 := ⟨k' - 1, by omega⟩
      exact h3 i' p hp k2 q (by omega) (by simpa using hq)
  have h2 : (walkF v4F (.mk i nm r k s) 0 ()).1 = true ↔ namesB s = true ∧ Nd.Alls (fun n => namesB n.sub = true) s := by
    constructor
    · intro h
      have := walk_root (P := fun n => namesB n.sub = true) (fun n d s hd hf => hf) (.mk i nm r k s) () h
      exact ⟨this.2, this.1⟩
    · rintro ⟨ha, hb⟩
      simp only [walkF]
      have hf : v4F (.mk i nm r k s) 0 () = (true, ()) := Prod.ext ha rfl
      rw [hf]
      simp only
      rw [walk_ofL (P := fun n => namesB n.sub = true) (fun n d hd hp => hp) s (0 + 1) (by omega) hb]
  rw [h2]
  refine h1.trans ?_
  rw [fullL_P (P := fun n => isNameB n.name = true), pairL s (1 + 1) (0 : Nat) (0 + 1) (by omega), down_alls, namesB_iff]
  constructor
  · rintro ⟨⟨a1, a2⟩, a3, a4⟩
    exact ⟨⟨a1, a3⟩, Nd.Alls.imp (fun n h => (namesB_iff n.sub).2 h) s (Nd.Alls.and s a2 a4)⟩
  · rintro ⟨⟨a1, a2⟩, a3⟩
    exact ⟨⟨a1, Nd.Alls.imp (fun n h => ((namesB_iff n.sub).1 h).1) s a3⟩, a2, Nd.Alls.imp (fun n h => ((namesB_iff n.sub).1 h).2) s a3⟩
theorem num_iff : AllOk L (IdOk L) ↔ (walkF (allF v5F) nd 0 []).1 = true := by
  obtain ⟨i, nm, r, k, s⟩ := nd
  subst hL
  simp only [fullN]
  rw [allOk_tail]
  have h1 : (∀ (i' : Nat) p, (fullL s (1 + 1) (0 : Nat) (0 + 1))[i']? = some p → IdOk (⟨.mk i nm r k s, 1, -1⟩ :: fullL s (1 + 1) (0 : Nat) (0 + 1)) (i' + 1) p) ↔
      (∀ p ∈ fullL s (1 + 1) (0 : Nat) (0 + 1), 1 ≤ p.n.id ∧ p.n.id ≤ 1000) ∧ (fullL s (1 + 1) (0 : Nat) (0 + 1)).Pairwise (fun q p => q.n.id ≠ p.n.id) := by
    rw [mem_iff_get, pairwise_of]
    constructor
    · intro h
      refine ⟨fun i' p hp => ⟨(h i' p hp).1, (h i' p hp).2.1⟩, fun i' p hp k' q hk hq => ?_⟩
      exact (h i' p hp).2.2 (k' + 1) q (by omega) (by omega) (by simpa using hq)
    · rintro ⟨h2, h3⟩ i' p hp
      refine ⟨(h2 i' p hp).1, (h2 i' p hp).2, fun k' q hk1 hk2 hq => ?_⟩
      obtain ⟨k2, rfl⟩ : ∃ x, k' = x + 1 := ⟨k' - 1, by omega⟩
      exact h3 i' p hp k2 q (by omega) (by simpa using hq)
  have h3 : ((∀ p ∈ fullL s (1 + 1) (0 : Nat) (0 + 1), 1 ≤ p.n.id ∧ p.n.id ≤ 1000) ∧ (fullL s (1 + 1) (0 : Nat) (0 + 1)).Pairwise (fun q p => q.n.id ≠ p.n.id)) ↔
      (∀ x ∈ idsL s, 1 ≤ x ∧ x ≤ 1000) ∧ (idsL s).Nodup := by
    have e := fullL_ids s (1 + 1) (0 : Nat) (0 + 1)
    rw [← e, List.Nodup, List.pairwise_map]
    refine and_congr_left fun _ => ⟨fun h x hx => ?_, fun h p hp => h _ (List.mem_map_of_mem hp)⟩
    obtain ⟨p, hp, rfl⟩ := List.mem_map.1 hx
    exact h p hp
  have hf : allF v5F (.mk i nm r k s) 0 [] = (true, []) := by simp [allF]
  refine h1.trans (h3.trans ?_)
  simp only [walkF]
  rw [hf]
  simp only
  constructor
  · rintro ⟨a1, a2⟩
    rw [v5_ofL s (0 + 1) [] (by omega) (by simpa using a2) a1]
  · intro h
    have := v5_idsL s (0 + 1) [] (by omega) h (by simp)
    exact ⟨this.2.2, by simpa using this.2.1⟩
end
theorem err_law {nd : Nd} {r : Int} (h : ErrSpec nd (flatOf nd) r) : r = errNum (validF nd) := by
  have hb := bound_iff nd
  have many : ¬ ((flatOf nd).length ≤ 40 ∧ ∀ p ∈ flatOf nd, p.deep ≤ 6) → validF nd = some .bound := fun hn => by
    rw [hb] at hn
    unfold validF
    rw [if_pos (by simpa using hn)]
  cases h with
  | many h => rw [many (fun h2 => by omega)]; rfl
  | high h p hp h6 => rw [many (fun h2 => by have := h2.2 p hp; omega)]; rfl
  | root h hd hr =>
    have h1 := hb.1 ⟨h, hd⟩
    have : validF nd = some .shape := by unfold validF; rw [if_neg (by rw [h1]; simp), if_pos hr]
    rw [this]; rfl
  | fit h hd hr hf =>
    have h1 := hb.1 ⟨h, hd⟩
    rw [fit_iff (flat_is_full h hd)] at hf
    have : validF nd = some .shape := by unfold validF; rw [if_neg (by rw [h1]; simp), if_neg (by rw [hr]; simp), if_pos (by simpa using hf)]
    rw [this]; rfl
  | name h hd hr hf hn =>
    have h1 := hb.1 ⟨h, hd⟩
    rw [fit_iff (flat_is_full h hd)] at hf
    rw [name_iff (flat_is_full h hd)] at hn
    have : validF nd = some .name := by unfold validF; rw [if_neg (by rw [h1]; simp), if_neg (by rw [hr]; simp), if_neg (by rw [hf]; simp), if_pos (by simpa using hn)]
    rw [this]; rfl
  | num h hd hr hf hn hi =>
    have h1 := hb.1 ⟨h, hd⟩
    rw [fit_iff (flat_is_full h hd)] at hf
    rw [name_iff (flat_is_full h hd)] at hn
    rw [num_iff (flat_is_full h hd)] at hi
    have : validF nd = some .name := by unfold validF; rw [if_neg (by rw [h1]; simp), if_neg (by rw [hr]; simp), if_neg (by rw [hf]; simp), if_neg (by rw [hn]; simp), if_pos (by simpa using hi)]
    rw [this]; rfl
  | ok h hd hr hf hn hi =>
    have h1 := hb.1 ⟨h, hd⟩
    rw [fit_iff (flat_is_full h hd)] at hf
    rw [name_iff (flat_is_full h hd)] at hn
    rw [num_iff (flat_is_full h hd)] at hi
    have : validF nd = none := by unfold validF; rw [if_neg (by rw [h1]; simp), if_neg (by rw [hr]; simp), if_neg (by rw [hf]; simp), if_neg (by rw [hn]; simp), if_neg (by rw [hi]; simp)]
    rw [this]; rfl
end Go.Proofs.YtfbbfhhhfbibjaaGreatDoor
namespace Go.Proofs.YtfbbfhhhfbibjaaGreatDoor
open Go.RowKit

mutual
theorem find_full (id : Int) : ∀ (n : Nd) (d' a : Int) (at0 : Nat) (d : Int) (s : Nd),
    match findP id (fullN n d' a at0) with
      | some p => walkF (findG id) n d s = (false, p.n)
      | none => (walkF (findG id) n d s).1 = true
  | .mk i nm r k sb, d', a, at0, d, s => by
    simp only [fullN, walkF]
    by_cases h : i = id
    · rw [findG_hit h]
      have h1 : findP id (⟨.mk i nm r k sb, d', a⟩ :: fullL sb (d' + 1) at0 (at0 + 1)) = some ⟨.mk i nm r k sb, d', a⟩ := by simp [findP, Nd.id, h]
      rw [h1]
    · rw [findG_miss h]
      have h1 : findP id (⟨.mk i nm r k sb, d', a⟩ :: fullL sb (d' + 1) at0 (at0 + 1)) = findP id (fullL sb (d' + 1) at0 (at0 + 1)) := by simp [findP, Nd.id, h]
      rw [h1]
      exact find_fullL id sb (d' + 1) at0 (at0 + 1) (d + 1) _
theorem find_fullL (id : Int) : ∀ (l : List Nd) (d' a : Int) (at0 : Nat) (d : Int) (s : Nd),
    match findP id (fullL l d' a at0) with
      | some p => walkFs (findG id) l d s = (false, p.n)
      | none => (walkFs (findG id) l d s).1 = true
  | [], d', a, at0, d, s => by simp [fullL, findP, walkFs]
  | n :: ns, d', a, at0, d, s => by
    simp only [fullL, walkFs]
    have h1 := find_full id n d' a at0 d s
    have h3 : findP id (fullN n d' a at0 ++ fullL ns d' a (at0 + n.weigh)) = (findP id (fullN n d' a at0)).or (findP id (fullL ns d' a (at0 + n.weigh))) := List.find?_append
    rw [h3]
    rcases hp : findP id (fullN n d' a at0) with _ | p
    · rw [hp] at h1
      simp only at h1
      rcases hw : walkF (findG id) n d s with ⟨b, s'⟩
      rw [hw] at h1
      simp only at h1
      subst h1
      exact find_fullL id ns d' a _ d s'
    · rw [hp] at h1
      simp only at h1
      rw [h1]
      rfl
end
theorem findF_full {nd : Nd} {L : List Pl} (hL : L = fullN nd 1 (-1) 0) (id : Int) : findF nd id = (findP id L).map Pl.n := by
  subst hL
  have h1 := find_full id nd 1 (-1) 0 0 zeroNd
  unfold findF
  rcases hp : findP id (fullN nd 1 (-1) 0) with _ | p
  · rw [hp] at h1
    simp only at h1
    rcases hw : walkF (findG id) nd 0 zeroNd with ⟨b, s'⟩
    rw [hw] at h1
    simp only at h1
    subst h1
    rfl
  · rw [hp] at h1
    simp only at h1
    rw [h1]
    rfl
theorem underL_append (a b : List Pl) : underL (a ++ b) = underL a ++ underL b := by unfold underL; rw [List.filter_append, List.map_append]
mutual
theorem under_full : ∀ (n : Nd) (d' a : Int) (at0 : Nat) (d : Int) (s : List Int), walkF underG n d s = (true, s ++ underL (fullN n d' a at0))
  | .mk i nm r k sb, d', a, at0, d, s => by
    simp only [fullN, walkF]
    by_cases h : k = 0
    · subst h
      have h1 : underG (.mk i nm r 0 sb) d s = (true, s) := by simp [underG, Nd.kind]
      have h2 : underL (⟨.mk i nm r 0 sb, d', a⟩ :: fullL sb (d' + 1) at0 (at0 + 1)) = underL (fullL sb (d' + 1) at0 (at0 + 1)) := by simp [underL, Nd.kind]
      rw [h1, h2]
      exact under_fullL sb (d' + 1) at0 (at0 + 1) (d + 1) s
    · have h1 : underG (.mk i nm r k sb) d s = (true, s ++ [i]) := by simp [underG, Nd.kind, Nd.id, h]
      have h2 : underL (⟨.mk i nm r k sb, d', a⟩ :: fullL sb (d' + 1) at0 (at0 + 1)) = i :: underL (fullL sb (d' + 1) at0 (at0 + 1)) := by simp [underL, Nd.kind, Nd.id, h]
      rw [h1, h2]
      have h3 := under_fullL sb (d' + 1) at0 (at0 + 1) (d + 1) (s ++ [i])
      simp only
      rw [h3]
      simp
theorem under_fullL : ∀ (l : List Nd) (d' a : Int) (at0 : Nat) (d : Int) (s : List Int), walkFs underG l d s = (true, s ++ underL (fullL l d' a at0))
  | [], d', a, at0, d, s => by simp [fullL, underL, walkFs]
  | n :: ns, d', a, at0, d, s => by
    simp only [fullL, walkFs]
    rw [under_full n d' a at0 d s]
    simp only
    rw [under_fullL ns d' a (at0 + n.weigh) d _, underL_append, List.append_assoc]
end
theorem underW_flat {n : Nd} (h1 : n.high ≤ 100) (h2 : n.weigh ≤ 2000) : underW n = underL (flatOf n) := by
  have h3 : flatOf n = fullN n 1 (-1) 0 := by
    have := flatN_full n [] 1 (-1) (by simp only [List.length_nil]; omega) (by omega)
    simpa [flatOf] using this
  rw [h3]
  unfold underW
  rw [under_full n 1 (-1) 0 0 []]
  rfl
mutual
theorem all_small (H W : Nat) : ∀ n : Nd, n.ok → n.high ≤ H → n.weigh ≤ W → n.All (fun x => x.ok ∧ x.high ≤ H ∧ x.weigh ≤ W)
  | .mk i nm r k s, h1, h2, h3 => ⟨⟨h1, h2, h3⟩, alls_small H W s h1.2.2.2.2.2 (by simp only [Nd.high] at h2; omega) (by simp only [Nd.weigh] at h3; omega)⟩
theorem alls_small (H W : Nat) : ∀ l : List Nd, Nd.oks l → Nd.highs l ≤ H → Nd.weighs l ≤ W → Nd.Alls (fun x => x.ok ∧ x.high ≤ H ∧ x.weigh ≤ W) l
  | [], _, _, _ => trivial
  | n :: ns, h1, h2, h3 => by
    simp only [Nd.highs] at h2
    simp only [Nd.weighs] at h3
    exact ⟨all_small H W n h1.1 (by omega) (by omega), alls_small H W ns h1.2 (by omega) (by omega)⟩
end
theorem found_small {nd n : Nd} {id : Int} (hok : nd.ok) (h : findR nd id = .ok n) : n.ok ∧ n.high ≤ 6 ∧ n.weigh ≤ 40 := by
  unfold findR at h
  cases hv : validF nd with
  | some e => rw [hv] at h; cases h
  | none =>
    rw [hv] at h
    simp only at h
    have hS := schema_of_valid hv
    have hL : flatOf nd = fullN nd 1 (-1) 0 := by
      have h1 := hS.high
      have h2 := hS.small
      have := flatN_full nd [] 1 (-1) (by simp only [List.length_nil]; omega) (by omega)
      simpa [flatOf] using this
    have hA := all_small 6 40 nd hok hS.high hS.small
    rw [← fullN_P nd 1 (-1) 0] at hA
    cases hf : findF nd id with
    | none => rw [hf] at h; cases h
    | some m =>
      rw [hf] at h
      obtain rfl := PJ.ok.inj h
      rw [findF_full rfl] at hf
      obtain ⟨p, hp, rfl⟩ := Option.map_eq_some_iff.1 hf
      exact hA p (List.mem_of_find?_eq_some hp)
theorem flat_valid {nd : Nd} (hv : validF nd = none) : flatOf nd = fullN nd 1 (-1) 0 := by
  have hS := schema_of_valid hv
  have h1 := hS.high
  have h2 := hS.small
  have := flatN_full nd [] 1 (-1) (by simp only [List.length_nil]; omega) (by omega)
  simpa [flatOf] using this

/-- Which of the eight an error of Valid's is. -/
def Er.i : Er → Nat
  | .text => 0 | .bound => 1 | .shape => 2 | .name => 4
structure Named (w : World) (A : Nat → Addr) (E : Er → Value) (N : Value) : Prop where
  sents : Sents w A
  er : ∀ e : Er, E e = sv (A e.i)
  non : N = sv (A 5)
theorem Named.told {w : World} {A : Nat → Addr} {E : Er → Value} {N : Value} (h : Named w A E N) (e : Er) : Told w A (E e) (errNum (some e)) (-1) := by
  rw [h.er e]
  cases e
  · exact Told.sent 1 (by omega)
  · exact Told.sent 0 (by omega)
  · exact Told.sent 2 (by omega)
  · exact Told.sent 4 (by omega)
theorem Named.toldN {w : World} {A : Nat → Addr} {E : Er → Value} {N : Value} (h : Named w A E N) : Told w A N 6 (-1) := by
  rw [h.non]
  exact Told.sent 5 (by omega)
theorem Named.keep0 {w w' : World} {A : Nat → Addr} {E : Er → Value} {N : Value} (h : Named w A E N) (hc : Chg NoB w w') : Named w' A E N := ⟨h.sents.keep0 hc, h.er, h.non⟩
end Go.Proofs.YtfbbfhhhfbibjaaGreatDoor
namespace Go.Proofs.YtfbbfhhhfbibjaaGreatDoor
open Go.RowKit

mutual
/-- The leaves' IDs in a node. -/
def lfN : Nd → List Int
  | .mk i _ _ k s => (if k = 0 then [] else [i]) ++ lfL s
def lfL : List Nd → List Int
  | [] => []
  | n :: ns => lfN n ++ lfL ns
end
mutual
theorem lf_full : ∀ (n : Nd) (d a : Int) (at0 : Nat), underL (fullN n d a at0) = lfN n
  | .mk i nm r k sb, d, a, at0 => by
    simp only [fullN, lfN]
    rw [← lf_fullL sb (d + 1) at0 (at0 + 1)]
    by_cases h : k = 0
    · subst h; simp [underL, Nd.kind]
    · simp [underL, Nd.kind, Nd.id, h]
theorem lf_fullL : ∀ (l : List Nd) (d a : Int) (at0 : Nat), underL (fullL l d a at0) = lfL l
  | [], d, a, at0 => rfl
  | n :: ns, d, a, at0 => by
    simp only [fullL, lfL]
    rw [underL_append, lf_full n, lf_fullL ns]
end
theorem under_lf {n : Nd} (h1 : n.high ≤ 100) (h2 : n.weigh ≤ 2000) : underL (flatOf n) = lfN n := by
  have h3 : flatOf n = fullN n 1 (-1) 0 := by
    have := flatN_full n [] 1 (-1) (by simp only [List.length_nil]; omega) (by omega)
    simpa [flatOf] using this
  rw [h3, lf_full]

mutual
/-- What is kept of a node that has some of the leaves in it. -/
def keepN (L : List Int) : Nd → Nd
  | .mk i n r k s => .mk i n r k (keepL L s)
def keepL (L : List Int) : List Nd → List Nd
  | [] => []
  | n :: ns => (if (lfN n).any (has L) = true then [keepN L n] else []) ++ keepL L ns
end
theorem keepL_append (L : List Int) : ∀ (a b : List Nd), keepL L (a ++ b) = keepL L a ++ keepL L b
  | [], b => rfl
  | x :: xs, b => by simp only [List.cons_append, keepL, keepL_append L xs b, List.append_assoc]

/-- A node is a group where something is in it, and there alone. -/
def Grp : Nd → Prop
  | .mk _ _ _ k s => k = 0 ↔ s ≠ []
mutual
theorem lf_ne : ∀ n : Nd, n.All Grp → lfN n ≠ []
  | .mk i nm r k s, h => by
    have h1 : k = 0 ↔ s ≠ [] := h.1
    simp only [lfN]
    by_cases hk : k = 0
    · rw [if_pos hk]
      exact lfL_ne s h.2 (h1.1 hk)
    · rw [if_neg hk]; simp
theorem lfL_ne : ∀ l : List Nd, Nd.Alls Grp l → l ≠ [] → lfL l ≠ []
  | [], _, h => absurd rfl h
  | n :: ns, h, _ => by
    simp only [lfL]
    intro e
    exact lf_ne n h.1 (List.append_eq_nil_iff.1 e).1
end
mutual
theorem lf_ids : ∀ (n : Nd) (x : Int), x ∈ lfN n → x ∈ idsN n
  | .mk i nm r k s, x, h => by
    simp only [lfN, List.mem_append] at h
    simp only [idsN, List.mem_cons]
    rcases h with h | h
    · split at h
      · cases h
      · simp only [List.mem_cons, List.not_mem_nil, or_false] at h; exact .inl h
    · exact .inr (lf_idsL s x h)
theorem lf_idsL : ∀ (l : List Nd) (x : Int), x ∈ lfL l → x ∈ idsL l
  | [], x, h => h
  | n :: ns, x, h => by
    simp only [lfL, List.mem_append] at h
    simp only [idsL, List.mem_append]
    exact h.imp (lf_ids n x) (lf_idsL ns x)
end
mutual
/-- A leaf in a node with one of the IDs. -/
def covN (ids : List Int) (x : Int) : Nd → Prop
  | .mk i n r k s => (i ∈ ids ∧ x ∈ lfN (.mk i n r k s)) ∨ covL ids x s
def covL (ids : List Int) (x : Int) : List Nd → Prop
  | [] => False
  | n :: ns => covN ids x n ∨ covL ids x ns
end
mutual
theorem cov_lf (ids : List Int) (x : Int) : ∀ n : Nd, covN ids x n → x ∈ lfN n
  | .mk i nm r k s, h => by
    simp only [covN] at h
    rcases h with h | h
    · exact h.2
    · simp only [lfN, List.mem_append]
      exact .inr (cov_lfL ids x s h)
theorem cov_lfL (ids : List Int) (x : Int) : ∀ l : List Nd, covL ids x l → x ∈ lfL l
  | [], h => h.elim
  | n :: ns, h => by
    simp only [covL] at h
    simp only [lfL, List.mem_append]
    exact h.imp (cov_lf ids x n) (cov_lfL ids x ns)
end
theorem has_of_mem {l : List Int} {x : Int} (h : x ∈ l) : has l x = true := (has_iff _ _).2 h
mutual
theorem keep_all (L : List Int) : ∀ n : Nd, n.All Grp → (∀ x ∈ lfN n, x ∈ L) → keepN L n = n
  | .mk i nm r k s, h, hx => by
    simp only [keepN]
    rw [keep_allL L s h.2 (fun x hm => hx x (by simp only [lfN, List.mem_append]; exact .inr hm))]
theorem keep_allL (L : List Int) : ∀ l : List Nd, Nd.Alls Grp l → (∀ x ∈ lfL l, x ∈ L) → keepL L l = l
  | [], _, _ => rfl
  | n :: ns, h, hx => by
    simp only [keepL]
    have h1 : ∀ x ∈ lfN n, x ∈ L := fun x hm => hx x (by simp only [lfL, List.mem_append]; exact .inl hm)
    have h2 : (lfN n).any (has L) = true := by
      cases hl : lfN n with
      | nil => exact absurd hl (lf_ne n h.1)
      | cons y ys => simp only [List.any_cons, has_of_mem (h1 y (by rw [hl]; exact List.mem_cons_self ..)), Bool.true_or]
    rw [if_pos h2, keep_all L n h.1 h1, keep_allL L ns h.2 (fun x hm => hx x (by simp only [lfL, List.mem_append]; exact .inr hm))]
    rfl
end
mutual
theorem keep_proj (L ids : List Int) : ∀ n : Nd, n.All Grp → (idsN n).Nodup → (∀ x ∈ lfN n, x ∈ L ↔ covN ids x n) →
    projN ids n = if (lfN n).any (has L) = true then [keepN L n] else []
  | .mk i nm r k s, h, hnd, hx => by
    have hg : k = 0 ↔ s ≠ [] := h.1
    rcases projN_cases ids i nm r k s with ⟨hi, e⟩ | ⟨hi, hp, e⟩ | ⟨hi, hp, e⟩
    · have h1 : ∀ x ∈ lfN (.mk i nm r k s), x ∈ L := fun x hm => (hx x hm).2 (by simp only [covN]; exact .inl ⟨hi, hm⟩)
      have h2 : (lfN (.mk i nm r k s)).any (has L) = true := by
        cases hl : lfN (.mk i nm r k s) with
        | nil => exact absurd hl (lf_ne _ h)
        | cons y ys => simp only [List.any_cons, has_of_mem (h1 y (by rw [hl]; exact List.mem_cons_self ..)), Bool.true_or]
      rw [e, if_pos h2, keep_all L _ h h1]
    all_goals
      have hx' : ∀ x ∈ lfL s, x ∈ L ↔ covL ids x s := fun x hm => by
        have h1 := hx x (by simp only [lfN, List.mem_append]; exact .inr hm)
        simp only [covN] at h1
        exact h1.trans ⟨fun h => h.elim (fun h => absurd h.1 hi) id, .inr⟩
      have hkL := keep_projL L ids s h.2 (by simp only [idsN] at hnd; exact (List.nodup_cons.1 hnd).2) hx'
    · have h2 : (lfN (.mk i nm r k s)).any (has L) = false := by
        rw [List.any_eq_false]
        intro x hm hxL
        have h3 := (hx x hm).1 ((has_iff _ _).1 hxL)
        simp only [covN] at h3
        rcases h3 with h3 | h3
        · exact hi h3.1
        · have h4 := cov_lfL ids x s h3
          have h5 := hkL.2
          rw [hp] at h5
          simp only [List.isEmpty_nil, Bool.not_true] at h5
          rw [List.any_eq_false] at h5
          exact h5 x h4 hxL
      rw [e, if_neg (by rw [h2]; exact Bool.false_ne_true)]
    · have h5 := hkL.2
      have h2 : (lfN (.mk i nm r k s)).any (has L) = true := by
        simp only [lfN, List.any_append, Bool.or_eq_true]
        right
        rw [h5]
        cases hq : projL ids s with
        | nil => exact absurd hq hp
        | cons y ys => rfl
      rw [e, if_pos h2]
      simp only [keepN, hkL.1]
theorem keep_projL (L ids : List Int) : ∀ l : List Nd, Nd.Alls Grp l → (idsL l).Nodup → (∀ x ∈ lfL l, x ∈ L ↔ covL ids x l) →
    keepL L l = projL ids l ∧ (lfL l).any (has L) = !(projL ids l).isEmpty
  | [], _, _, _ => ⟨rfl, rfl⟩
  | n :: ns, h, hnd, hx => by
    simp only [idsL] at hnd
    obtain ⟨hn1, hn2, hn3⟩ := List.nodup_append.1 hnd
    have hx1 : ∀ x ∈ lfN n, x ∈ L ↔ covN ids x n := fun x hm => by
      have h1 := hx x (by simp only [lfL, List.mem_append]; exact .inl hm)
      simp only [covL] at h1
      exact h1.trans ⟨fun h => h.elim id (fun h => absurd rfl (hn3 x (lf_ids n x hm) x (lf_idsL ns x (cov_lfL ids x ns h)))), .inl⟩
    have hx2 : ∀ x ∈ lfL ns, x ∈ L ↔ covL ids x ns := fun x hm => by
      have h1 := hx x (by simp only [lfL, List.mem_append]; exact .inr hm)
      simp only [covL] at h1
      exact h1.trans ⟨fun h => h.elim (fun h => absurd rfl (hn3 x (lf_ids n x (cov_lf ids x n h)) x (lf_idsL ns x hm))) id, .inr⟩
    have h1 := keep_proj L ids n h.1 hn1 hx1
    have h2 := keep_projL L ids ns h.2 hn2 hx2
    simp only [keepL, projL, lfL, List.any_append]
    rw [h1, h2.1, h2.2]
    refine ⟨rfl, ?_⟩
    cases hb : (lfN n).any (has L) with
    | true => simp
    | false => simp
end
end Go.Proofs.YtfbbfhhhfbibjaaGreatDoor
namespace Go.Proofs.YtfbbfhhhfbibjaaGreatDoor
open Go.ChangeShapes Go.WideShapes Go.RowKit

theorem errStar : "*" ++ "errors.errorString" = "*errors.errorString" := by decide
theorem errRow (u : TypeId) (h : Tryz.prog.typeName? 3 u = some "*errors.errorString") : u = 206 :=
  typeName_ptr_named (nm := "errors.errorString") (by rw [errStar]; kernel_rfl) (by kernel_rfl) (by decide) u (by rw [errStar]; exact h)

theorem laid_get2 {P : Program} {W : World} {n : String} {d : DataW Unit} : ∀ {l : List (String × DataW Unit)} {ps : List MemPlace}, DataW.LaidVars P W l ps → (n, d) ∈ l →
    ∃ g t cs fuel p, P.globalNamed n = some g ∧ (P.globals[g]?).map (·.type) = some t ∧ W.var? P n = some cs ∧ DataW.trod (fun _ => ()) P W 0 (fun _ => true) false fuel t cs.toList = some (d, p) ∧
      (∀ x ∈ MemPlace.row ⟨g, 0, none⟩ cs.size, x ∈ ps) ∧ ∀ x ∈ p, x ∈ ps
  | [], _, _, h => by cases h
  | (n', d') :: r, ps, hl, h => by
    obtain ⟨g, t, cs, fuel, p, q, h1, h2, h3, h4, h5, h6⟩ := hl
    rcases List.mem_cons.1 h with h | h
    · obtain ⟨rfl, rfl⟩ := Prod.mk.inj h
      exact ⟨g, t, cs, fuel, p, h1, h2, h3, h4, fun x hx => by rw [h6]; simp [hx], fun x hx => by rw [h6]; simp [hx]⟩
    · obtain ⟨g', t', cs', f', p', a1, a2, a3, a4, a5, a6⟩ := laid_get2 h5 h
      exact ⟨g', t', cs', f', p', a1, a2, a3, a4, fun x hx => by rw [h6]; simp [a5 x hx], fun x hx => by rw [h6]; simp [a6 x hx]⟩

set_option maxRecDepth 100000 in
theorem laid_sent {W : World} {n : String} {l : List UInt8} {lv : List (String × DataW Unit)} {g : Nat} (hL : laidMet Tryz.prog lv W) (hm : (n, errText l) ∈ lv)
    (hg : Tryz.prog.globalNamed n = some g) (hty : (Tryz.prog.globals[g]?).map (·.type) = some 29) :
    ∃ a s, W.cell? ⟨g, 0, none⟩ = some (sv a) ∧ W.cell? a = some (.string s) ∧ s.data.toList = l ∧ ∃ c t, W.heap[a.block]? = some (.cells c t (0, 0)) := by
  obtain ⟨ps, hV, _, hrows⟩ := hL
  obtain ⟨g', t', cs, fuel, p, h1, h2, h3, h4, h5, h6⟩ := laid_get2 hV hm
  obtain rfl := Option.some.inj (hg.symm.trans h1)
  obtain rfl := Option.some.inj (hty.symm.trans h2)
  obtain ⟨l0⟩ := cs
  have ok0 : ∀ u v, l0 = [.iface u v] → Value.okWide Tryz.prog W .any 0 u v := fun u v e => by
    subst e
    exact (hrows g 0 (h5 _ (by simp [MemPlace.row]))).2 u v (by simpa using World.var?_cell hg h3 0)
  obtain ⟨a0, s0, rfl, hc0, hs0, hz0, rfl⟩ := errorString_of_trod Tryz.underlying29 errRow Tryz.underlying206 Tryz.underlying208 rfl rfl Tryz.underlying9 (by kernel_rfl) (by kernel_rfl) h4 ok0
  obtain ⟨c0, t0, hb0⟩ := (hrows a0.block a0.off (h6 _ (by simp [MemPlace.row]))).1
  refine ⟨a0, s0, ?_, hc0, hs0, c0, t0, hb0⟩
  rw [World.var?_cell hg h3, ← Array.getElem?_toList]
  rfl

/-- The list, and what of it is plain data. -/
abbrev lay0 : List (String × DataW Unit) := Rows.schemaFindsRow.laid
abbrev layF : List (String × DataW Unit) := lay0.filter fun x => x.2.handleName?.isNone
theorem in_layF {n : String} {d : DataW Unit} (i : Nat) (h : lay0[i]? = some (n, d)) (h2 : d.handleName?.isNone = true) : (n, d) ∈ layF := List.mem_filter.2 ⟨List.mem_of_getElem? h, h2⟩
theorem met_data {W : World} (h : laidMetH Tryz.prog lay0 W) : laidMet Tryz.prog layF W := (show laidMet Tryz.prog layF W ∧ handlesMet Tryz.prog [("errors.errorType", Rows.laid_errors_errorType)] W from h).1
theorem met_handle {W : World} (h : laidMetH Tryz.prog lay0 W) : handlesMet Tryz.prog [("errors.errorType", Rows.laid_errors_errorType)] W := (show laidMet Tryz.prog layF W ∧ handlesMet Tryz.prog [("errors.errorType", Rows.laid_errors_errorType)] W from h).2
theorem lists : Lists layF where
  b := ⟨_, in_layF 6 rfl (by kernel_rfl)⟩
  t := ⟨_, in_layF 5 rfl (by kernel_rfl)⟩
  s := ⟨_, in_layF 7 rfl (by kernel_rfl)⟩
  n := ⟨_, in_layF 9 rfl (by kernel_rfl)⟩
  y := ⟨_, in_layF 14 rfl (by kernel_rfl)⟩
  r := ⟨_, in_layF 13 rfl (by kernel_rfl)⟩
  reps := in_layF 15 rfl (by kernel_rfl)
  kinds := in_layF 16 rfl (by kernel_rfl)
  pow := in_layF 2 rfl (by kernel_rfl)
theorem gNone : Tryz.prog.globalNamed "shredcol/api.ErrNone" = some 6 := by kernel_rfl
theorem gKind : Tryz.prog.globalNamed "shredcol/api.ErrKind" = some 7 := by kernel_rfl
theorem gSum : Tryz.prog.globalNamed "shredcol/api.ErrSum" = some 8 := by kernel_rfl
theorem gSpace : Tryz.prog.globalNamed "shredcol/api.ErrSpace" = some 9 := by kernel_rfl
theorem gType : Tryz.prog.globalNamed "errors.errorType" = some 10 := by kernel_rfl
theorem rtRow : (Tryz.prog.cutTypes.find? (·.1 == "internal/reflectlite.rtype")).map (·.2) = some 158 := by kernel_rfl
theorem oneRow : ((List.range Tryz.prog.types.size).filter fun t => Tryz.prog.rowNamed t [101, 114, 114, 111, 114]) = [29] := by kernel_rfl

theorem handle_cell {W : World} (h : laidMetH Tryz.prog lay0 W) : W.cell? ⟨10, 0, none⟩ = some (.iface 158 (.agg #[.pointer (some ⟨19, 29, none⟩)])) := by
  obtain ⟨name, u, ty, e1, e2, e3, e4, e5⟩ := met_handle h _ (List.mem_singleton.2 rfl)
  have en : name = [101, 114, 114, 111, 114] := by
    have h1 : (Rows.laid_errors_errorType : DataW Unit).handleName? = some [101, 114, 114, 111, 114] := by kernel_rfl
    exact (Option.some.inj (h1.symm.trans e1)).symm
  subst en
  obtain rfl := Option.some.inj (rtRow.symm.trans e2)
  have hm : ty ∈ (List.range Tryz.prog.types.size).filter fun t => Tryz.prog.rowNamed t [101, 114, 114, 111, 114] := List.mem_filter.2 ⟨List.mem_range.2 e3, e4⟩
  rw [oneRow] at hm
  obtain rfl := List.mem_singleton.1 hm
  have hh : typeHandle Tryz.prog 29 = .pointer (some ⟨19, 29, none⟩) := by kernel_rfl
  rw [hh] at e5
  rw [World.var?_cell gType e5 0]
  rfl

def sentText : List (List UInt8) := [[115, 104, 114, 101, 100, 99, 111, 108, 58, 32, 116, 101, 120, 116], [115, 104, 114, 101, 100, 99, 111, 108, 58, 32, 98, 111, 117, 110, 100], [115, 104, 114, 101, 100, 99, 111, 108, 58, 32, 115, 104, 97, 112, 101], [115, 104, 114, 101, 100, 99, 111, 108, 58, 32, 107, 105, 110, 100], [115, 104, 114, 101, 100, 99, 111, 108, 58, 32, 110, 97, 109, 101], [115, 104, 114, 101, 100, 99, 111, 108, 58, 32, 110, 111, 110, 101], [115, 104, 114, 101, 100, 99, 111, 108, 58, 32, 115, 117, 109], [115, 104, 114, 101, 100, 99, 111, 108, 58, 32, 115, 112, 97, 99, 101]]
theorem sent_at {W : World} (h : laidMetH Tryz.prog lay0 W) : ∀ i, i < 8 → ∃ a s, (∀ g, sg[i]? = some g → W.cell? ⟨g, 0, none⟩ = some (sv a)) ∧ W.cell? a = some (.string s) ∧ sentText[i]? = some s.data.toList ∧ ∃ c t, W.heap[a.block]? = some (.cells c t (0, 0)) := by
  have hD := met_data h
  have key : ∀ (n : String) (l : List UInt8) (g i j : Nat), lay0[j]? = some (n, errText l) → (errText l).handleName?.isNone = true → Tryz.prog.globalNamed n = some g → (Tryz.prog.globals[g]?).map (·.type) = some 29 → sg[i]? = some g → sentText[i]? = some l →
      ∃ a s, (∀ g, sg[i]? = some g → W.cell? ⟨g, 0, none⟩ = some (sv a)) ∧ W.cell? a = some (.string s) ∧ sentText[i]? = some s.data.toList ∧ ∃ c t, W.heap[a.block]? = some (.cells c t (0, 0)) := by
    intro n l g i j h1 h2 h3 h4 h5 h6
    obtain ⟨a, s, a1, a2, a3, a4⟩ := laid_sent hD (in_layF j h1 h2) h3 h4
    refine ⟨a, s, fun g' hg' => ?_, a2, by rw [h6, a3], a4⟩
    obtain rfl := Option.some.inj (h5.symm.trans hg')
    exact a1
  intro i hi
  match i, hi with
  | 0, _ => exact key _ _ _ 0 5 rfl (by kernel_rfl) gT (by kernel_rfl) rfl rfl
  | 1, _ => exact key _ _ _ 1 6 rfl (by kernel_rfl) gB (by kernel_rfl) rfl rfl
  | 2, _ => exact key _ _ _ 2 7 rfl (by kernel_rfl) gS (by kernel_rfl) rfl rfl
  | 3, _ => exact key _ _ _ 3 8 rfl (by kernel_rfl) gKind (by kernel_rfl) rfl rfl
  | 4, _ => exact key _ _ _ 4 9 rfl (by kernel_rfl) gN (by kernel_rfl) rfl rfl
  | 5, _ => exact key _ _ _ 5 10 rfl (by kernel_rfl) gNone (by kernel_rfl) rfl rfl
  | 6, _ => exact key _ _ _ 6 11 rfl (by kernel_rfl) gSum (by kernel_rfl) rfl rfl
  | 7, _ => exact key _ _ _ 7 12 rfl (by kernel_rfl) gSpace (by kernel_rfl) rfl rfl

theorem sents_of {W : World} (h : laidMetH Tryz.prog lay0 W) : ∃ A, Sents W A := by
  have h0 := sent_at h
  have h1 : ∀ i, ∃ a, i < 8 → ∃ s, (∀ g, sg[i]? = some g → W.cell? ⟨g, 0, none⟩ = some (sv a)) ∧ W.cell? a = some (.string s) ∧ sentText[i]? = some s.data.toList ∧ ∃ c t, W.heap[a.block]? = some (.cells c t (0, 0)) := fun i => by
    by_cases hi : i < 8
    · obtain ⟨a, s, hs⟩ := h0 i hi
      exact ⟨a, fun _ => ⟨s, hs⟩⟩
    · exact ⟨⟨0, 0, none⟩, fun h => absurd h hi⟩
  obtain ⟨A, hA⟩ := Classical.axiomOfChoice h1
  refine ⟨A, ⟨fun i g hg => ?_, fun i hi => ?_, fun i j hi hj hij e => ?_, handle_cell h⟩⟩
  · have hi : i < 8 := (List.getElem?_eq_some_iff.1 hg).1
    obtain ⟨s, a1, _⟩ := hA i hi
    exact a1 g hg
  · obtain ⟨s, _, _, _, a4⟩ := hA i hi
    exact a4
  · obtain ⟨s, _, a2, a3, _⟩ := hA i hi
    obtain ⟨s', _, b2, b3, _⟩ := hA j hj
    rw [e] at a2
    have hs : s = s' := by have := a2.symm.trans b2; simpa using this
    subst hs
    have hnd : sentText.Nodup := by decide +kernel
    exact hij ((List.getElem?_inj (by show i < 8; exact hi) hnd).1 (a3.trans b3.symm))

theorem non_of {W : World} (h : laidMetH Tryz.prog lay0 W) : ∃ N, Non W N := by
  obtain ⟨a, s, a1, _⟩ := sent_at h 5 (by omega)
  exact ⟨_, a1 _ rfl, _, _, rfl⟩
theorem named_of {W : World} {A : Nat → Addr} {E : Er → Value} {N : Value} (hS : Sents W A) (hE : Errs W E) (hN : Non W N) : Named W A E N := by
  refine ⟨hS, fun e => ?_, ?_⟩
  · have h1 := hE.cell e
    have h2 : W.cell? ⟨e.g, 0, none⟩ = some (sv (A e.i)) := hS.cell e.i e.g (by cases e <;> rfl)
    exact Option.some.inj (h1.symm.trans h2)
  · exact Option.some.inj (hN.cell.symm.trans (hS.cell 5 _ rfl))

/-- All of it. -/
theorem all_of {W : World} (h : laidMetH Tryz.prog lay0 W) : ∃ A E N, Glo W.heap.size E W ∧ Non W N ∧ Named W A E N := by
  obtain ⟨A, hS⟩ := sents_of h
  obtain ⟨E, hG⟩ := glo_of lists (met_data h)
  obtain ⟨N, hN⟩ := non_of h
  exact ⟨A, E, N, hG, hN, named_of hS hG.errs hN⟩

noncomputable def handleWorld (os : Os) : World :=
  let w0 := World.holding Tryz.prog os ⟨#[], #[], []⟩
  { w0 with heap := w0.heap.modify 10 fun
      | .cells _ t frozen => .cells #[.iface 158 (.agg #[.pointer (some ⟨19, 29, none⟩)])] t frozen
      | o => o }
noncomputable def laidWorld (os : Os) : World := (handleWorld os).layVars Tryz.prog layF
theorem laidWorld_os (os : Os) : (laidWorld os).os = os := World.layVars_os _ _ _
theorem laidWorld_met (os : Os) (args : Array Value) : laidMetH Tryz.prog lay0 ((laidWorld os).forCall (fun _ _ => 0) ⟨#[], args, []⟩).memory := by
  have e1 : (layF.filter fun x => (layF.map (·.1)).contains x.1) = layF := List.filter_eq_self.2 fun x hx => List.contains_iff_mem.2 (List.mem_map.2 ⟨x, hx, rfl⟩)
  have e2 : (layF.filter fun x => !(layF.map (·.1)).contains x.1) = [] := List.filter_eq_nil_iff.2 fun x hx => by rw [List.contains_iff_mem.2 (List.mem_map.2 ⟨x, hx, rfl⟩)]; simp
  have h : laidMet Tryz.prog layF (laidWorld os) := laidMet_layVars (w0 := handleWorld os) (layF.map (·.1)) [] (by rw [e1]; rfl) (by rw [e1]; kernel_rfl) (by rw [e1]; kernel_rfl) (by rw [e2]; exact LaidIn.none)
  exact laidMetH_of_parts (h.of_heap (by simp [World.memory, World.forCall, Input.heap])) (by kernel_rfl)
end Go.Proofs.YtfbbfhhhfbibjaaGreatDoor
