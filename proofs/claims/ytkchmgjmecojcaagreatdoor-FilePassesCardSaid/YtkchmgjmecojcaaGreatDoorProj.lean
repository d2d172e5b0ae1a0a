/-
  A projection of a right schema, as plain data: it is right, its leaves are some of the schema's, projected again it is the same.
-/
import Derived.Test.YtkchmgjmecojcaaGreatDoorPlain
import Derived.Test.YtkchmgjmecojcaaGreatDoorRefName
import Derived.Test.YtkchmgjmecojcaaGreatDoorSumW
set_option linter.unusedVariables false
set_option linter.unusedSimpArgs false
namespace Go.Proofs.YtkchmgjmecojcaaGreatDoor
open Go.RowKit
mutual
def idsN : Nd → List Int
 | .mk i _ _ _ s => i :: idsL s
def idsL : List Nd → List Int
 | [] => []
 | n :: ns => idsN n ++ idsL ns
end
structure Fit (s : List Nd) : Prop where
 ne : s ≠ []
 high : Nd.highs s ≤ 5
 small : Nd.weighs s ≤ 39
 nodes : Nd.Alls (fun n => (v3F n ()).1 = true) s
 names : namesB s = true
 deep : Nd.Alls (fun n => namesB n.sub = true) s
 nodup : (idsL s).Nodup
 range : ∀ x ∈ idsL s, 1 ≤ x ∧ x ≤ 1000
mutual
theorem v5_ids : ∀ (n : Nd) (d : Int) (s : List Int), 1 ≤ d → (walkF (allF v5F) n d s).1 = true → s.Nodup → (walkF (allF v5F) n d s).2 = s ++ idsN n ∧ (s ++ idsN n).Nodup ∧ ∀ x ∈ idsN n, 1 ≤ x ∧ x ≤ 1000
 | .mk i nm r k sb, d, s, hd, h, hn => by
  simp only [walkF] at h ⊢
  have hf : allF v5F (.mk i nm r k sb) d s = (decide (1 ≤ i) && decide (i ≤ 1000) && !has s i, s ++ [i]) := by
   simp only [allF, if_neg (show ¬ d = 0 by omega)]; rfl
  rw [hf] at h ⊢
  cases hb : (decide (1 ≤ i) && decide (i ≤ 1000) && !has s i) with
  | false => rw [hb] at h; cases h
  | true =>
   rw [hb] at h
   simp only [Bool.and_eq_true, decide_eq_true_eq, Bool.not_eq_true', has_not] at hb
   have hn2 : (s ++ [i]).Nodup := List.nodup_append.2 ⟨hn, by simp, fun a ha b hb2 => by
    simp only [List.mem_cons, List.not_mem_nil, or_false] at hb2
    subst hb2
    rintro rfl
    exact hb.2 ha⟩
   obtain ⟨h1, h2, h3⟩ := v5_idsL sb (d + 1) (s ++ [i]) (by omega) h hn2
   have e : s ++ idsN (.mk i nm r k sb) = (s ++ [i]) ++ idsL sb := by simp [idsN]
   rw [e]
   refine ⟨h1, h2, fun x hx => ?_⟩
   simp only [idsN, List.mem_cons] at hx
   rcases hx with rfl | hx
   ·exact hb.1
   ·exact h3 x hx
theorem v5_idsL : ∀ (l : List Nd) (d : Int) (s : List Int), 1 ≤ d → (walkFs (allF v5F) l d s).1 = true → s.Nodup → (walkFs (allF v5F) l d s).2 = s ++ idsL l ∧ (s ++ idsL l).Nodup ∧ ∀ x ∈ idsL l, 1 ≤ x ∧ x ≤ 1000
 | [], d, s, hd, h, hn => by
  simp only [walkFs, idsL, List.append_nil]
  exact ⟨trivial, hn, fun x hx => by cases hx⟩
 | n :: ns, d, s, hd, h, hn => by
  simp only [walkFs] at h ⊢
  have h0 := v5_ids n d s hd
  rcases hw : walkF (allF v5F) n d s with ⟨b, s'⟩
  rw [hw] at h h0
  cases b
  ·cases h
  ·obtain ⟨e, h1, h2⟩ := h0 rfl hn
   simp only at e h
   subst e
   obtain ⟨h3, h4, h5⟩ := v5_idsL ns d (s ++ idsN n) hd h h1
   have e : s ++ idsL (n :: ns) = (s ++ idsN n) ++ idsL ns := by simp [idsL]
   rw [e]
   refine ⟨h3, h4, fun x hx => ?_⟩
   simp only [idsL, List.mem_append] at hx
   exact hx.elim (h2 x) (h5 x)
end
mutual
theorem v5_of : ∀ (n : Nd) (d : Int) (s : List Int), 1 ≤ d → (s ++ idsN n).Nodup → (∀ x ∈ idsN n, 1 ≤ x ∧ x ≤ 1000) → walkF (allF v5F) n d s = (true, s ++ idsN n)
 | .mk i nm r k sb, d, s, hd, hn, hr => by
  have e : s ++ idsN (.mk i nm r k sb) = (s ++ [i]) ++ idsL sb := by simp [idsN]
  rw [e] at hn ⊢
  have hi := hr i (by simp [idsN])
  have hni : i ∉ s := fun h => by
   have := (List.nodup_append.1 (List.nodup_append.1 hn).1).2.2 i h i (by simp)
   exact this rfl
  have hf : allF v5F (.mk i nm r k sb) d s = (true, s ++ [i]) := by
   simp only [allF, if_neg (show ¬ d = 0 by omega), v5F, Nd.id, hi.1, hi.2, (has_not _ _).2 hni, decide_true, Bool.not_false, Bool.and_self]
  simp only [walkF]
  rw [hf]
  exact v5_ofL sb (d + 1) (s ++ [i]) (by omega) hn (fun x hx => hr x (by simp [idsN, hx]))
theorem v5_ofL : ∀ (l : List Nd) (d : Int) (s : List Int), 1 ≤ d → (s ++ idsL l).Nodup → (∀ x ∈ idsL l, 1 ≤ x ∧ x ≤ 1000) → walkFs (allF v5F) l d s = (true, s ++ idsL l)
 | [], d, s, hd, hn, hr => by simp [walkFs, idsL]
 | n :: ns, d, s, hd, hn, hr => by
  have e : s ++ idsL (n :: ns) = (s ++ idsN n) ++ idsL ns := by simp [idsL]
  rw [e] at hn ⊢
  simp only [walkFs]
  rw [v5_of n d s hd (List.nodup_append.1 hn).1 (fun x hx => hr x (by simp [idsL, hx]))]
  exact v5_ofL ns d (s ++ idsN n) hd hn (fun x hx => hr x (by simp [idsL, hx]))
end
mutual
theorem v1_of : ∀ (n : Nd) (d s : Int), d + n.high ≤ 7 → s + n.weigh ≤ 40 → walkF v1F n d s = (true, s + n.weigh)
 | .mk i nm r k sb, d, s, hd, hs => by
  simp only [Nd.high] at hd
  simp only [Nd.weigh] at hs ⊢
  have hf : v1F (.mk i nm r k sb) d s = (true, s + 1) := by
   have e1 : decide (s + 1 ≤ 40) = true := decide_eq_true (by omega)
   have e2 : decide (d ≤ 6) = true := decide_eq_true (by omega)
   simp only [v1F, e1, e2, Bool.and_self]
  simp only [walkF]
  rw [hf]
  simp only
  rw [v1_ofL sb (d + 1) (s + 1) (by omega) (by omega)]
  simp only [Prod.mk.injEq, true_and]
  omega
theorem v1_ofL : ∀ (l : List Nd) (d s : Int), d + Nd.highs l ≤ 7 → s + Nd.weighs l ≤ 40 → walkFs v1F l d s = (true, s + Nd.weighs l)
 | [], d, s, hd, hs => by simp [walkFs, Nd.weighs]
 | n :: ns, d, s, hd, hs => by
  simp only [Nd.highs] at hd
  simp only [Nd.weighs] at hs ⊢
  simp only [walkFs]
  rw [v1_of n d s (by omega) (by omega)]
  simp only
  rw [v1_ofL ns d _ (by omega) (by omega)]
  simp only [Prod.mk.injEq, true_and]
  omega
end
mutual
theorem walk_of {f : Nd → Int → Unit → Bool × Unit} {P : Nd → Prop} (hP : ∀ n d, 1 ≤ d → P n → (f n d ()).1 = true) : ∀ (n : Nd) (d : Int), 1 ≤ d → n.All P → walkF f n d () = (true, ())
 | .mk i nm r k sb, d, hd, h => by
  have hf : f (.mk i nm r k sb) d () = (true, ()) := Prod.ext (hP _ d hd h.1) rfl
  simp only [walkF]
  rw [hf]
  exact walk_ofL hP sb (d + 1) (by omega) h.2
theorem walk_ofL {f : Nd → Int → Unit → Bool × Unit} {P : Nd → Prop} (hP : ∀ n d, 1 ≤ d → P n → (f n d ()).1 = true) : ∀ (l : List Nd) (d : Int), 1 ≤ d → Nd.Alls P l → walkFs f l d () = (true, ())
 | [], d, hd, h => rfl
 | n :: ns, d, hd, h => by
  simp only [walkFs]
  rw [walk_of hP n d hd h.1]
  exact walk_ofL hP ns d hd h.2
end
theorem fit_of {nd : Nd} (h : validF nd = none) : Fit nd.sub := by
 have hS := schema_of_valid h
 unfold validF at h
 split at h
 ·cases h
 rename_i h1
 split at h
 ·cases h
 rename_i h2
 split at h
 ·cases h
 rename_i h3
 split at h
 ·cases h
 rename_i h4
 split at h
 ·cases h
 rename_i h5
 rw [Bool.not_eq_false] at h1 h2 h3 h4 h5
 have a3 := (walk_root (P := fun n => (v3F n ()).1 = true) (fun n d s hd hf => by simp only [allF, if_neg (show ¬ d = 0 by omega)] at hf; exact hf) nd () h3).1
 have a4 := walk_root (P := fun n => namesB n.sub = true) (fun n d s hd hf => hf) nd () h4
 have h6 := hS.high
 have h7 := hS.small
 obtain ⟨i, nm, r, k, sb⟩ := nd
 simp only [walkF] at h5
 have hf : allF v5F (.mk i nm r k sb) 0 [] = (true, []) := by simp [allF]
 rw [hf] at h5
 have a5 := v5_idsL sb (0 + 1) [] (by omega) h5 (by simp)
 simp only [Nd.high] at h6
 simp only [Nd.weigh] at h7
 unfold rootB at h2
 rw [Bool.and_eq_true, Bool.and_eq_true, Bool.and_eq_true, Bool.and_eq_true] at h2
 have h8 := of_decide_eq_true h2.2
 refine ⟨fun e => h8 ?_, by simp only [Nd.sub]; omega, by simp only [Nd.sub]; omega, a3, a4.2, a4.1, by simpa [Nd.sub] using a5.2.1, a5.2.2⟩
 rw [e]; rfl
def leavesOf (nd : Nd) : List Lf := lvL 0 0 [] nd.sub
end Go.Proofs.YtkchmgjmecojcaaGreatDoor
