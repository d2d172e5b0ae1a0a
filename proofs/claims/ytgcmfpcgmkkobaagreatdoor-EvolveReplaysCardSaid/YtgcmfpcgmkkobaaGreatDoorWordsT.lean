/-
  The words of a node, parted in one way only.
-/
import Derived.Test.YtgcmfpcgmkkobaaGreatDoorItemMv
import Derived.Test.YtgcmfpcgmkkobaaGreatDoorAgainLaw
set_option linter.unusedVariables false
set_option linter.unusedSimpArgs false
namespace Go.Proofs.YtgcmfpcgmkkobaaGreatDoor
open Go.RowKit
def PlainW (n : Nd) : Prop := 1 ≤ n.rep ∧ n.rep ≤ 3 ∧ 0 ≤ n.kind ∧ n.kind ≤ 5 ∧ isNameB n.name = true ∧ (n.kind ≠ 0 → n.sub = [])
def rep3 : List ByteArray := [⟨#[114, 101, 113, 117, 105, 114, 101, 100]⟩, ⟨#[111, 112, 116, 105, 111, 110, 97, 108]⟩, ⟨#[114, 101, 112, 101, 97, 116, 101, 100]⟩]
theorem rep3_law (a : List UInt8) : (∃ r : Int, 1 ≤ r ∧ r ≤ 3 ∧ Lib.idxOfS rep3 (mkB a) = r - 1 ∧ a = repS r) ∨ (Lib.idxOfS rep3 (mkB a) = -1 ∧ ∀ r : Int, 1 ≤ r → r ≤ 3 → a ≠ repS r) := by
 have e : Lib.idxOfS rep3 (mkB a) = if mkB (repS 1) = mkB a then 0 else if mkB (repS 2) = mkB a then 1 else if mkB (repS 3) = mkB a then 2 else -1 := rfl
 by_cases h1 : mkB (repS 1) = mkB a
 ·exact .inl ⟨1, by decide, by decide, by rw [e, if_pos h1]; rfl, (mk_inj h1).symm⟩
 by_cases h2 : mkB (repS 2) = mkB a
 ·exact .inl ⟨2, by decide, by decide, by rw [e, if_neg h1, if_pos h2]; rfl, (mk_inj h2).symm⟩
 by_cases h3 : mkB (repS 3) = mkB a
 ·exact .inl ⟨3, by decide, by decide, by rw [e, if_neg h1, if_neg h2, if_pos h3]; rfl, (mk_inj h3).symm⟩
 refine .inr ⟨by rw [e, if_neg h1, if_neg h2, if_neg h3], fun r r1 r3 ha => ?_⟩
 obtain rfl | rfl | rfl : r = 1 ∨ r = 2 ∨ r = 3 := by omega
 ·exact h1 (by rw [ha])
 ·exact h2 (by rw [ha])
 ·exact h3 (by rw [ha])
theorem kind6_law (a : List UInt8) : (∃ k : Int, 0 ≤ k ∧ k ≤ 5 ∧ Lib.idxOfS kindT (mkB a) = k ∧ a = kindS k) ∨ (Lib.idxOfS kindT (mkB a) = -1 ∧ ∀ k : Int, 0 ≤ k → k ≤ 5 → a ≠ kindS k) := by
 have e : Lib.idxOfS kindT (mkB a) = if mkB (kindS 0) = mkB a then 0 else if mkB (kindS 1) = mkB a then 1 else if mkB (kindS 2) = mkB a then 2 else if mkB (kindS 3) = mkB a then 3 else if mkB (kindS 4) = mkB a then 4 else if mkB (kindS 5) = mkB a then 5 else -1 := rfl
 by_cases h0 : mkB (kindS 0) = mkB a
 ·exact .inl ⟨0, by decide, by decide, by rw [e, if_pos h0], (mk_inj h0).symm⟩
 by_cases h1 : mkB (kindS 1) = mkB a
 ·exact .inl ⟨1, by decide, by decide, by rw [e, if_neg h0, if_pos h1], (mk_inj h1).symm⟩
 by_cases h2 : mkB (kindS 2) = mkB a
 ·exact .inl ⟨2, by decide, by decide, by rw [e, if_neg h0, if_neg h1, if_pos h2], (mk_inj h2).symm⟩
 by_cases h3 : mkB (kindS 3) = mkB a
 ·exact .inl ⟨3, by decide, by decide, by rw [e, if_neg h0, if_neg h1, if_neg h2, if_pos h3], (mk_inj h3).symm⟩
 by_cases h4 : mkB (kindS 4) = mkB a
 ·exact .inl ⟨4, by decide, by decide, by rw [e, if_neg h0, if_neg h1, if_neg h2, if_neg h3, if_pos h4], (mk_inj h4).symm⟩
 by_cases h5 : mkB (kindS 5) = mkB a
 ·exact .inl ⟨5, by decide, by decide, by rw [e, if_neg h0, if_neg h1, if_neg h2, if_neg h3, if_neg h4, if_pos h5], (mk_inj h5).symm⟩
 refine .inr ⟨by rw [e, if_neg h0, if_neg h1, if_neg h2, if_neg h3, if_neg h4, if_neg h5], fun k k0 k5 ha => ?_⟩
 obtain rfl | rfl | rfl | rfl | rfl | rfl : k = 0 ∨ k = 1 ∨ k = 2 ∨ k = 3 ∨ k = 4 ∨ k = 5 := by omega
 ·exact h0 (by rw [ha])
 ·exact h1 (by rw [ha])
 ·exact h2 (by rw [ha])
 ·exact h3 (by rw [ha])
 ·exact h4 (by rw [ha])
 ·exact h5 (by rw [ha])
theorem name_lower {nm : ByteArray} (h : isNameB nm = true) : ∀ b ∈ nm.data.toList, lower b = true := by
 unfold isNameB at h
 rw [Bool.and_eq_true] at h
 exact List.all_eq_true.1 h.2
theorem repS_close {r : Int} (h1 : 1 ≤ r) (h3 : r ≤ 3) : repS r ≠ [125] := by
 obtain rfl | rfl | rfl : r = 1 ∨ r = 2 ∨ r = 3 := by omega
 all_goals decide
mutual
theorem twN : ∀ (t t' : Nd) (r r' : List (List UInt8)), t.All PlainW → t'.All PlainW → wordsN t ++ r = wordsN t' ++ r' → wordsN t = wordsN t' ∧ r = r'
 | .mk i nm rp k s, .mk i' nm' rp' k' s', r, r', hA, hB, h => by
  obtain ⟨⟨a1, a2, a3, a4, a5, a6⟩, hs⟩ := hA
  obtain ⟨⟨b1, b2, b3, b4, b5, b6⟩, hs'⟩ := hB
  simp only [Nd.rep, Nd.kind, Nd.sub, Nd.name] at a1 a2 a3 a4 a5 a6 b1 b2 b3 b4 b5 b6
  simp only [wordsN] at h ⊢
  have hk : k = k' := by
   refine kindS_inj a3 a4 b3 b4 ?_
   by_cases e1 : k = 0
   ·rw [if_pos e1] at h
    by_cases e2 : k' = 0
    ·rw [e1, e2]
    ·rw [if_neg e2] at h
     exact (List.cons.inj (List.cons.inj h).2).1
   ·rw [if_neg e1] at h
    by_cases e2 : k' = 0
    ·rw [if_pos e2] at h
     exact (List.cons.inj (List.cons.inj h).2).1
    ·rw [if_neg e2] at h
     exact (List.cons.inj (List.cons.inj h).2).1
  subst hk
  by_cases e1 : k = 0
  ·rw [if_pos e1] at h ⊢
   rw [if_pos e1] at h ⊢
   simp only [List.cons_append, List.nil_append, List.append_assoc, List.cons.injEq] at h ⊢
   obtain ⟨h1, h2, h3, _, h5⟩ := h
   obtain ⟨h6, h7⟩ := twL s s' r r' hs hs' h5
   exact ⟨⟨h1, h2, h3, trivial, by rw [h6]⟩, h7⟩
  ·rw [if_neg e1] at h ⊢
   rw [if_neg e1] at h ⊢
   simp only [List.cons_append, List.nil_append, List.cons.injEq, and_true] at h ⊢
   exact ⟨⟨h.1, h.2.1, h.2.2.1⟩, h.2.2.2⟩
theorem twL : ∀ (s s' : List Nd) (r r' : List (List UInt8)), Nd.Alls PlainW s → Nd.Alls PlainW s' → wordsNs s ++ [125] :: r = wordsNs s' ++ [125] :: r' → wordsNs s = wordsNs s' ∧ r = r'
 | [], [], r, r', _, _, h => by
  simp only [wordsNs, List.nil_append, List.cons.injEq, true_and] at h
  exact ⟨rfl, h⟩
 | [], .mk i nm rp k s0 :: s', r, r', _, hB, h => by
  exfalso
  have h1 : [125] = repS rp := by
   simp only [wordsNs, List.nil_append, wordsN, List.append_assoc] at h
   split at h <;> exact (List.cons.inj h).1
  exact repS_close hB.1.1.1 hB.1.1.2.1 h1.symm
 | .mk i nm rp k s0 :: s, [], r, r', hA, _, h => by
  exfalso
  have h1 : repS rp = [125] := by
   simp only [wordsNs, List.nil_append, wordsN, List.append_assoc] at h
   split at h <;> exact (List.cons.inj h).1
  exact repS_close hA.1.1.1 hA.1.1.2.1 h1
 | t :: s, t' :: s', r, r', hA, hB, h => by
  simp only [wordsNs, List.append_assoc] at h ⊢
  obtain ⟨h1, h2⟩ := twN t t' _ _ hA.1 hB.1 h
  obtain ⟨h3, h4⟩ := twL s s' r r' hA.2 hB.2 h2
  exact ⟨by rw [h1, h3], h4⟩
end
theorem tw_rest : ∀ (ts s : List Nd) (X rest : List (List UInt8)), Nd.Alls PlainW ts → Nd.Alls PlainW s → wordsNs ts ++ X = wordsNs s ++ [125] :: rest → ∃ s2, Nd.Alls PlainW s2 ∧ X = wordsNs s2 ++ [125] :: rest
 | [], s, X, rest, _, hB, h => ⟨s, hB, h⟩
 | .mk i nm rp k s0 :: ts, [], X, rest, hA, _, h => by
  exfalso
  have h1 : repS rp = [125] := by
   simp only [wordsNs, List.nil_append, wordsN, List.append_assoc] at h
   split at h <;> exact (List.cons.inj h).1
  exact repS_close hA.1.1.1 hA.1.1.2.1 h1
 | t :: ts, t' :: s, X, rest, hA, hB, h => by
  simp only [wordsNs, List.append_assoc] at h
  obtain ⟨_, h2⟩ := twN t t' _ _ hA.1 hB.1 h
  exact tw_rest ts s X rest hA.2 hB.2 h2
mutual
theorem words_weigh : ∀ t : Nd, t.All PlainW → 3 * t.weigh ≤ (wordsN t).length
 | .mk i nm r k s, hA => by
  have := words_weighL s hA.2
  simp only [wordsN, Nd.weigh]
  split
  ·simp only [List.length_append, List.length_cons, List.length_nil]; omega
  ·rename_i hk
   have hs : s = [] := hA.1.2.2.2.2.2 hk
   subst hs
   simp [Nd.weighs]
theorem words_weighL : ∀ s : List Nd, Nd.Alls PlainW s → 3 * Nd.weighs s ≤ (wordsNs s).length
 | [], _ => by simp [Nd.weighs]
 | t :: s, hA => by
  have h1 := words_weigh t hA.1
  have h2 := words_weighL s hA.2
  simp only [wordsNs, Nd.weighs, List.length_append]; omega
end
theorem flatI_app (p : Int) : ∀ a b : List Nd, flatI p (a ++ b) = flatI p a ++ flatI p b
 | [], b => by simp [flatI]
 | .mk i nm r k s :: a, b => by rw [List.cons_append, flatI, flatI, flatI_app p a b]; simp
theorem renL_snoc : ∀ (a : Int) (s : List Nd) (t : Nd), renL a (s ++ [t]) = renL a s ++ [renN (a + Nd.weighs s) t]
 | a, [], t => by simp [renL, Nd.weighs]
 | a, n :: s, t => by
  rw [List.cons_append, renL, renL, renL_snoc _ s t]
  simp only [List.cons_append, Nd.weighs]
  congr 4
  omega
theorem wordsNs_snoc (s : List Nd) (t : Nd) : wordsNs (s ++ [t]) = wordsNs s ++ wordsN t := by
 induction s with
 | nil => simp [wordsNs]
 | cons n s ih => rw [List.cons_append, wordsNs, wordsNs, ih, List.append_assoc]
def NoTree (X : List (List UInt8)) : Prop := ∀ (t : Nd) (rest : List (List UInt8)), t.All PlainW → X ≠ wordsN t ++ rest
theorem head_of {i : Int} {nm : ByteArray} {r k : Int} {s : List Nd} {a b c : List UInt8} {X rest : List (List UInt8)} (h : a :: b :: c :: X = wordsN (.mk i nm r k s) ++ rest) :
  a = repS r ∧ b = kindS k ∧ ((k = 0 ∧ c = nm.data.toList ∧ X = [123] :: (wordsNs s ++ [125] :: rest)) ∨ (k ≠ 0 ∧ c = nm.data.toList ++ [59] ∧ X = rest)) := by
 simp only [wordsN] at h
 by_cases hk : k = 0
 ·rw [if_pos hk] at h
  simp only [List.cons_append, List.nil_append, List.append_assoc, List.cons.injEq] at h
  exact ⟨h.1, h.2.1, .inl ⟨hk, h.2.2.1, h.2.2.2⟩⟩
 ·rw [if_neg hk] at h
  simp only [List.cons_append, List.nil_append, List.cons.injEq] at h
  exact ⟨h.1, h.2.1, .inr ⟨hk, h.2.2.1, h.2.2.2⟩⟩
theorem words_three (t : Nd) : ∃ a b c r, wordsN t = a :: b :: c :: r := by
 cases t
 simp only [wordsN]
 split
 ·exact ⟨_, _, _, _, rfl⟩
 ·exact ⟨_, _, _, _, rfl⟩
theorem noTree_short {X : List (List UInt8)} (h : X.length < 3) : NoTree X := by
 intro t rest _ e
 obtain ⟨a, b, c, r, ht⟩ := words_three t
 rw [e, ht] at h
 simp at h
 omega
end Go.Proofs.YtgcmfpcgmkkobaaGreatDoor
