/-
  The text of a right schema is read as it: the plain law.; How long a right schema's text is. Plain.
-/
import Derived.Test.YtnmhkafpgohefaaGreatDoorPlain
set_option linter.unusedVariables false
set_option linter.unusedSimpArgs false
namespace Go.Proofs.YtnmhkafpgohefaaGreatDoor
open Go.RowKit
theorem soft_of {c : UInt8} {l : List UInt8} (h1 : lower c = false) (h2 : digits.contains c = false) : Soft (c :: l) := by
 intro x hx
 obtain rfl := Option.some.inj hx
 exact ⟨h1, h2⟩
theorem soft32 (l : List UInt8) : Soft (32 :: l) := soft_of rfl rfl
theorem soft59 (l : List UInt8) : Soft (59 :: l) := soft_of rfl rfl
theorem word_step {w rest : List UInt8} (hw : w.all lower = true) (hne : w.isEmpty = false) (hs : Soft rest) : tok (w ++ rest) = w ∧ nxt (w ++ rest) = skipW rest ∧ skipW (w ++ rest) = w ++ rest := by
 cases w with
 | nil => cases hne
 | cons c cs =>
  have h := fun x hx => List.all_eq_true.1 hw x hx
  have h1 := tok_letters (c := c) (cs := cs) (rest := rest) h hs
  exact ⟨h1, nxt_of h1, skip_at (lower_ne (h c (List.mem_cons_self ..))).2 _⟩
theorem head_text {i : Int} {nm : ByteArray} {r k : Int} {deep : Int} {ind Z : List UInt8} (hind : ∀ c ∈ ind, c = 32) (hr1 : 1 ≤ r) (hr3 : r ≤ 3) (hk0 : 0 ≤ k) (hk5 : k ≤ 5) (hn : isNameB nm = true) (hi1 : 1 ≤ i) (hi2 : i ≤ 1000) (hZ : Soft Z) :
  ∃ rest, skipW (headS i nm r k ind ++ Z) = rest ∧ ¬ (tok rest = [125] ∨ (tok rest = [] ∧ deep ≤ 2)) ∧ idxT repT (tok rest) = r ∧ idxT kindT (tok (nxt rest)) = k ∧ tok (nxt (nxt rest)) = nm.data.toList ∧ headB nm.data.toList = true ∧
   wordId (tok (nxt (nxt (nxt rest)))) = some i ∧ nxt (nxt (nxt (nxt rest))) = skipW Z := by
 obtain ⟨rn, rfl⟩ := Int.eq_ofNat_of_zero_le (show 0 ≤ r by omega)
 obtain ⟨kn, rfl⟩ := Int.eq_ofNat_of_zero_le hk0
 have hR := rep_fin ⟨rn, by omega⟩
 have hK := kind_fin ⟨kn, by omega⟩
 simp only at hR hK
 rcases hR with h0 | ⟨hR1, hR2, hR3⟩
 ·omega
 obtain ⟨hK1, hK2, hK3⟩ := hK
 obtain ⟨hI1, hI2, _⟩ := num_all hi1 hi2
 unfold isNameB at hn
 rw [Bool.and_eq_true, Bool.and_eq_true] at hn
 have hne : nm.data.toList.isEmpty = false := by
  have h1 : nm.size ≠ 0 := of_decide_eq_true hn.1.1
  cases hl : nm.data.toList with
  | nil => exact absurd (by rw [← length_data, hl]; rfl) h1
  | cons x xs => rfl
 have e : headS i nm rn kn ind ++ Z = ind ++ (repS rn ++ (32 :: (kindS kn ++ (32 :: (nm.data.toList ++ (32 :: ((35 :: Lib.itoa i) ++ Z))))))) := by
  unfold headS
  simp only [List.append_assoc, List.cons_append, List.nil_append]
 rw [e, skip_ind _ _ hind]
 have s1 := word_step (rest := 32 :: (kindS kn ++ (32 :: (nm.data.toList ++ (32 :: ((35 :: Lib.itoa i) ++ Z)))))) hR2 hR3 (soft32 _)
 have s2 := word_step (rest := 32 :: (nm.data.toList ++ (32 :: ((35 :: Lib.itoa i) ++ Z)))) hK2 hK3 (soft32 _)
 have s3 := word_step (rest := 32 :: ((35 :: Lib.itoa i) ++ Z)) hn.2 hne (soft32 _)
 have t4 := tok_number (rest := Z) hI2 hZ
 have n1 : nxt (repS rn ++ (32 :: (kindS kn ++ (32 :: (nm.data.toList ++ (32 :: ((35 :: Lib.itoa i) ++ Z))))))) = kindS kn ++ (32 :: (nm.data.toList ++ (32 :: ((35 :: Lib.itoa i) ++ Z)))) := by
  rw [s1.2.1, skip_ws (.inl rfl), s2.2.2]
 have n2 : nxt (kindS kn ++ (32 :: (nm.data.toList ++ (32 :: ((35 :: Lib.itoa i) ++ Z))))) = nm.data.toList ++ (32 :: ((35 :: Lib.itoa i) ++ Z)) := by
  rw [s2.2.1, skip_ws (.inl rfl), s3.2.2]
 have n3 : nxt (nm.data.toList ++ (32 :: ((35 :: Lib.itoa i) ++ Z))) = (35 :: Lib.itoa i) ++ Z := by
  rw [s3.2.1, skip_ws (.inl rfl), List.cons_append, skip_at (by decide)]
 have n4 : nxt ((35 :: Lib.itoa i) ++ Z) = skipW Z := nxt_of t4
 refine ⟨_, s1.2.2, ?_, ?_, ?_, ?_, ?_, ?_, ?_⟩
 ·rw [s1.1]
  rintro (h | ⟨h, _⟩)
  ·rw [h] at hR2; exact absurd hR2 (by decide)
  ·rw [h] at hR3; exact absurd hR3 (by decide)
 ·rw [s1.1]; exact hR1
 ·rw [n1, s2.1]; exact hK1
 ·rw [n1, n2, s3.1]
 ·cases hl : nm.data.toList with
  | nil => rw [hl] at hne; cases hne
  | cons x xs => rw [hl] at hn; exact List.all_eq_true.1 hn.2 x (List.mem_cons_self ..)
 ·rw [n1, n2, n3, t4]; exact hI1
 ·rw [n1, n2, n3, n4]
theorem tok59 (l : List UInt8) : tok (59 :: l) = [59] := rfl
theorem tok123 (l : List UInt8) : tok (123 :: l) = [123] := rfl
theorem tok125 (l : List UInt8) : tok (125 :: l) = [125] := rfl
theorem nxt59 (l : List UInt8) : nxt (59 :: l) = skipW l := nxt_of (w := [59]) (tok59 l)
theorem nxt123 (l : List UInt8) : nxt (123 :: l) = skipW l := nxt_of (w := [123]) (tok123 l)
theorem nxt125 (l : List UInt8) : nxt (125 :: l) = skipW l := nxt_of (w := [125]) (tok125 l)
theorem back_name (nm : ByteArray) : (⟨nm.data.toList.toArray⟩ : ByteArray) = nm := by cases nm; rfl
theorem rep_len : ∀ p : Fin 4, (repS (p.val : Int)).length ≤ 8 := by decide +kernel
theorem kind_len : ∀ p : Fin 6, (kindS (p.val : Int)).length ≤ 6 := by decide +kernel
theorem head_len {n : Nd} (h : Right n) (ind : List UInt8) : (headS n.id n.name n.rep n.kind ind).length ≤ ind.length + 36 := by
 obtain ⟨b1, b2, b3, b4, b5, b6, b7, b8, b9⟩ := h
 obtain ⟨rn, hrn⟩ := Int.eq_ofNat_of_zero_le (show 0 ≤ n.rep by omega)
 obtain ⟨kn, hkn⟩ := Int.eq_ofNat_of_zero_le b3
 have h1 := rep_len ⟨rn, by omega⟩
 have h2 := kind_len ⟨kn, by omega⟩
 have h3 := (num_all b8 b9).2.2
 have h4 : n.name.size ≤ 12 := by
  unfold isNameB at b7
  rw [Bool.and_eq_true, Bool.and_eq_true] at b7
  exact of_decide_eq_true b7.1.2
 simp only at h1 h2
 unfold headS
 rw [hrn, hkn]
 simp only [List.length_append, List.length_cons, List.length_nil, length_data]
 omega
mutual
theorem text_len : ∀ (n : Nd) (ind : List UInt8) (M : Nat), n.All Right → ind.length + 2 * n.high ≤ M → (textN n ind).length ≤ n.weigh * (2 * M + 60)
 | .mk i nm r k s, ind, M, hA, hM => by
  have h1 := head_len hA.1 ind
  simp only [Nd.id, Nd.name, Nd.rep, Nd.kind] at h1
  simp only [Nd.high] at hM
  have h2 := texts_len s (ind ++ [32, 32]) M hA.2 (by simp only [List.length_append, List.length_cons, List.length_nil]; omega)
  simp only [textN, Nd.weigh, Nat.add_mul, Nat.one_mul]
  rw [List.length_append]
  split
  ·simp only [List.length_append, List.length_cons, List.length_nil]
   omega
  ·simp only [List.length_cons, List.length_nil]
   omega
theorem texts_len : ∀ (l : List Nd) (ind : List UInt8) (M : Nat), Nd.Alls Right l → ind.length + 2 * Nd.highs l ≤ M → (textL l ind).length ≤ Nd.weighs l * (2 * M + 60)
 | [], ind, M, hA, hM => by simp [textL]
 | n :: ns, ind, M, hA, hM => by
  simp only [Nd.highs] at hM
  have h1 := text_len n ind M hA.1 (by omega)
  have h2 := texts_len ns ind M hA.2 (by omega)
  simp only [textL, Nd.weighs, List.length_append, Nat.add_mul]
  omega
end
mutual
theorem fine_of : ∀ (n : Nd), n.All Right → n.fine
 | .mk i nm r k s, h => ⟨h.1.1, h.1.2.1, h.1.2.2.1, h.1.2.2.2.1, fines_of s h.2⟩
theorem fines_of : ∀ (l : List Nd), Nd.Alls Right l → Nd.fines l
 | [], h => trivial
 | n :: ns, h => ⟨fine_of n h.1, fines_of ns h.2⟩
end
theorem good_of {nd : Nd} (hv : validF nd = none) : Nd.fines nd.sub ∧ (textL nd.sub []).length ≤ 140737488355328 := by
 have hS := schema_of_valid hv
 have h1 := hS.high
 have h2 := hS.small
 refine ⟨fines_of _ hS.right, ?_⟩
 have h3 := texts_len nd.sub [] 12 hS.right (by
  obtain ⟨i, nm, r, k, s⟩ := nd
  simp only [Nd.high, Nd.sub] at h1 ⊢
  simp only [List.length_nil]
  omega)
 have h4 : Nd.weighs nd.sub ≤ 40 := by
  obtain ⟨i, nm, r, k, s⟩ := nd
  simp only [Nd.weigh, Nd.sub] at h2 ⊢
  omega
 have h5 : Nd.weighs nd.sub * (2 * 12 + 60) ≤ 40 * (2 * 12 + 60) := Nat.mul_le_mul_right _ h4
 omega
end Go.Proofs.YtnmhkafpgohefaaGreatDoor
