/-
  The text of a right schema is read as it: the plain law.
-/
import Derived.Test.YtfbbfhhhfbibjaaGreatDoorPlain
namespace Go.Proofs.YtfbbfhhhfbibjaaGreatDoor
open Go.RowKit

theorem soft_of {c : UInt8} {l : List UInt8} (h1 : lower c = false) (h2 : digits.contains c = false) : Soft (c :: l) := by
  intro x hx
  obtain rfl := Option.some.inj hx
  exact ⟨h1, h2⟩
theorem soft32 (l : List UInt8) : Soft (32 :: l) := soft_of rfl rfl
theorem soft59 (l : List UInt8) : Soft (59 :: l) := soft_of rfl rfl

/-- A word, then what comes next. -/
theorem word_step {w rest : List UInt8} (hw : w.all lower = true) (hne : w.isEmpty = false) (hs : Soft rest) : tok (w ++ rest) = w ∧ nxt (w ++ rest) = skipW rest ∧ skipW (w ++ rest) = w ++ rest := by
  cases w with
  | nil => cases hne
  | cons c cs =>
    have h := fun x hx => List.all_eq_true.1 hw x hx
    have h1 := tok_letters (c := c) (cs := cs) (rest := rest) h hs
    exact ⟨h1, nxt_of h1, skip_at (lower_ne (h c (List.mem_cons_self ..))).2 _⟩

/-- A node's head in its text. -/
theorem head_text {i : Int} {nm : ByteArray} {r k : Int} {deep : Int} {ind Z : List UInt8} (hind : ∀ c ∈ ind, c = 32) (hr1 : 1 ≤ r) (hr3 : r ≤ 3) (hk0 : 0 ≤ k) (hk5 : k ≤ 5) (hn : isNameB nm = true) (hi1 : 1 ≤ i) (hi2 : i ≤ 1000) (hZ : Soft Z) :
    ∃ rest, skipW (headS i nm r k ind ++ Z) = rest ∧ ¬ (tok rest = [125] ∨ (tok rest = [] ∧ deep ≤ 2)) ∧ idxT repT (tok rest) = r ∧ idxT kindT (tok (nxt rest)) = k ∧ tok (nxt (nxt rest)) = nm.data.toList ∧ headB nm.data.toList = true ∧
      wordId (tok (nxt (nxt (nxt rest)))) = some i ∧ nxt (nxt (nxt (nxt rest))) = skipW Z := by
  obtain ⟨rn, rfl⟩ := Int.eq_ofNat_of_zero_le (show 0 ≤ r by omega)
  obtain ⟨kn, rfl⟩ := Int.eq_ofNat_of_zero_le hk0
  have hR := rep_fin ⟨rn, by omega⟩
  have hK := kind_fin ⟨kn, by omega⟩
  simp only at hR hK
  rcases hR with h0 | ⟨hR1, hR2, hR3⟩
  · omega
  obtain ⟨hK1, hK2, hK3⟩ := hK
  obtain ⟨hI1, hI2, _⟩ := num_all hi1 hi2
  unfold isNameB at hn
  rw [Bool.and_eq_true, Bool.and_eq_true] at hn
  have hne : nm.data.toList.isEmpty = false := by
    have h1 : nm.size ≠ 0 := of_decide_eq_true hn.1.1
    cases hl : nm.data.toList with
    | nil => exact absurd (by rw [← length_data, hl]; rfl) h1
    | cons x xs => rfl
  have e : headS i nm rn kn ind ++ Z = ind ++ (repS rn ++ (32 :: (kindS kn ++ (32 :: (nm.data.toList ++ (32 :: ((35 :: Lib.itoa i) ++ Z))))))) := by
    unfold headS
    simp only [List.append_assoc, List.cons_append, List.nil_append]
  rw [e, skip_ind _ _ hind]
  have s1 := word_step (rest := 32 :: (kindS kn ++ (32 :: (nm.data.toList ++ (32 :: ((35 :: Lib.itoa i) ++ Z)))))) hR2 hR3 (soft32 _)
  have s2 := word_step (rest := 32 :: (nm.data.toList ++ (32 :: ((35 :: Lib.itoa i) ++ Z)))) hK2 hK3 (soft32 _)
  have s3 := word_step (rest := 32 :: ((35 :: Lib.itoa i) ++ Z)) hn.2 hne (soft32 _)
  have t4 := tok_number (rest := Z) hI2 hZ
  have n1 : nxt (repS rn ++ (32 :: (kindS kn ++ (32 :: (nm.data.toList ++ (32 :: ((35 :: Lib.itoa i) ++ Z))))))) = kindS kn ++ (32 :: (nm.data.toList ++ (32 :: ((35 :: Lib.itoa i) ++ Z)))) := by
    rw [s1.2.1, skip_ws (.inl rfl), s2.2.2]
  have n2 : nxt (kindS kn ++ (32 :: (nm.data.toList ++ (32 :: ((35 :: Lib.itoa i) ++ Z))))) = nm.data.toList ++ (32 :: ((35 :: Lib.itoa i) ++ Z)) := by
    rw [s2.2.1, skip_ws (.inl rfl), s3.2.2]
  have n3 : nxt (nm.data.toList ++ (32 :: ((35 :: Lib.itoa i) ++ Z))) = (35 :: Lib.itoa i) ++ Z := by
    rw [s3.2.1, skip_ws (.inl rfl), List.cons_append, skip_at (by decide)]
  have n4 : nxt ((35 :: Lib.itoa i) ++ Z) = skipW Z := nxt_of t4
  refine ⟨_, s1.2.2, ?_, ?_, ?_, ?_, ?_, ?_, ?_⟩
  · rw [s1.1]
    rintro (h | ⟨h, _⟩)
    · rw [h] at hR2; exact absurd hR2 (by decide)
    · rw [h] at hR3; exact absurd hR3 (by decide)
  · rw [s1.1]; exact hR1
  · rw [n1, s2.1]; exact hK1
  · rw [n1, n2, s3.1]
  · cases hl : nm.data.toList with
    | nil => rw [hl] at hne; cases hne
    | cons x xs => rw [hl] at hn; exact List.all_eq_true.1 hn.2 x (List.mem_cons_self ..)
  · rw [n1, n2, n3, t4]; exact hI1
  · rw [n1, n2, n3, n4]

theorem tok59 (l : List UInt8) : tok (59 :: l) = [59] := rfl
theorem tok123 (l : List UInt8) : tok (123 :: l) = [123] := rfl
theorem tok125 (l : List UInt8) : tok (125 :: l) = [125] := rfl
theorem nxt59 (l : List UInt8) : nxt (59 :: l) = skipW l := nxt_of (w := [59]) (tok59 l)
theorem nxt123 (l : List UInt8) : nxt (123 :: l) = skipW l := nxt_of (w := [123]) (tok123 l)
theorem nxt125 (l : List UInt8) : nxt (125 :: l) = skipW l := nxt_of (w := [125]) (tok125 l)
theorem back_name (nm : ByteArray) : (⟨nm.data.toList.toArray⟩ : ByteArray) = nm := by cases nm; rfl

mutual
theorem parse_textN : ∀ (n : Nd) (deep : Int) (ind more : List UInt8), n.All Right → deep + n.high ≤ 7 → (∀ c ∈ ind, c = 32) → parseL deep (skipW (textN n ind ++ more)) = (parseL deep (skipW more)).cons n
  | .mk i nm r k s, deep, ind, more, hA, hd, hind => by
    obtain ⟨⟨b1, b2, b3, b4, b5, b6, b7, b8, b9⟩, hs⟩ := hA
    simp only [Nd.rep, Nd.kind, Nd.sub, Nd.name, Nd.id] at b1 b2 b3 b4 b5 b6 b7 b8 b9
    by_cases hk : k = 0
    · subst hk
      have hne := b6 rfl
      have hhi : 2 ≤ (Nd.mk i nm r 0 s).high := by
        cases s with
        | nil => exact absurd rfl hne
        | cons x xs =>
          simp only [Nd.high, Nd.highs]
          have : 1 ≤ x.high := by cases x; simp only [Nd.high]; omega
          omega
      have e : textN (.mk i nm r 0 s) ind ++ more = headS i nm r 0 ind ++ (32 :: 123 :: 10 :: (textL s (ind ++ [32, 32]) ++ (ind ++ (125 :: 10 :: more)))) := by
        simp only [textN, if_true, List.append_assoc, List.cons_append, List.nil_append]
      obtain ⟨rest, h0, h1, h2, h3, h4, h5, h6, h7⟩ := head_text (deep := deep) (Z := 32 :: 123 :: 10 :: (textL s (ind ++ [32, 32]) ++ (ind ++ (125 :: 10 :: more)))) hind b1 b2 b3 b4 b7 b8 b9 (soft32 _)
      rw [skip_ws (.inl rfl), skip_at (by decide)] at h7
      have hh : headN deep rest = .group i nm r (skipW (textL s (ind ++ [32, 32]) ++ (ind ++ (125 :: 10 :: more)))) := by
        unfold headN
        rw [if_neg h1, h2, if_neg (by omega), h3, if_neg (by omega), h4, h5, if_neg (by simp), h6]
        simp only [if_true]
        rw [h7, tok123, if_neg (by simp), if_neg (by omega), back_name, nxt123, skip_ws (.inr rfl)]
      have hp : parseL (deep + 1) (skipW (textL s (ind ++ [32, 32]) ++ (ind ++ (125 :: 10 :: more)))) = .ok s (125 :: 10 :: more) := by
        rw [parse_textL s (deep + 1) (ind ++ [32, 32]) _ hs (by simp only [Nd.high] at hd; omega) (fun c hc => by
          rcases List.mem_append.1 hc with h | h
          · exact hind c h
          · simpa using h), skip_ind _ _ hind, skip_at (by decide), parse_stop (show headN (deep + 1) (125 :: 10 :: more) = .stop from if_pos (.inl (tok125 _)))]
        simp [PR.app]
      rw [e, h0, (parse_group hh hp (tok125 _)).1, nxt125, skip_ws (.inr rfl)]
    · have hsub := b5 hk
      subst hsub
      have e : textN (.mk i nm r k []) ind ++ more = headS i nm r k ind ++ (59 :: 10 :: more) := by
        simp only [textN, if_neg hk, List.append_assoc, List.cons_append, List.nil_append]
      obtain ⟨rest, h0, h1, h2, h3, h4, h5, h6, h7⟩ := head_text (deep := deep) (Z := 59 :: 10 :: more) hind b1 b2 b3 b4 b7 b8 b9 (soft59 _)
      rw [skip_at (by decide)] at h7
      have hh : headN deep rest = .leaf (.mk i nm r k []) (skipW more) := by
        unfold headN
        rw [if_neg h1, h2, if_neg (by omega), h3, if_neg (by omega), h4, h5, if_neg (by simp), h6]
        simp only [if_neg hk]
        rw [h7, tok59, if_neg (by simp), back_name, nxt59, skip_ws (.inr rfl)]
      rw [e, h0, parse_leaf hh]
theorem parse_textL : ∀ (l : List Nd) (deep : Int) (ind more : List UInt8), Nd.Alls Right l → deep + Nd.highs l ≤ 7 → (∀ c ∈ ind, c = 32) → parseL deep (skipW (textL l ind ++ more)) = (parseL deep (skipW more)).app l
  | [], deep, ind, more, hA, hd, hind => by
    simp only [textL, List.nil_append]
    cases parseL deep (skipW more) <;> simp [PR.app]
  | n :: ns, deep, ind, more, hA, hd, hind => by
    simp only [Nd.highs] at hd
    simp only [textL, List.append_assoc]
    rw [parse_textN n deep ind _ hA.1 (by omega) hind, parse_textL ns deep ind more hA.2 (by omega) hind]
    cases parseL deep (skipW more) <;> simp [PR.app, PR.cons]
end

theorem read_text {nd : Nd} (hv : validF nd = none) (hl : (textL nd.sub []).length ≤ 8000) : readF ⟨(textL nd.sub []).toArray⟩ = .ok nd := by
  have hS := schema_of_valid hv
  have hh := hS.high
  have hp := parse_textL nd.sub 2 [] [] hS.right (by
    obtain ⟨i, nm, r, k, s⟩ := nd
    simp only [Nd.high, Nd.sub] at hh ⊢
    omega) (fun c hc => by cases hc)
  rw [List.append_nil, show skipW [] = [] from rfl, parse_stop (show headN 2 [] = .stop from if_pos (.inr ⟨rfl, by decide⟩))] at hp
  unfold readF
  rw [if_neg (show ¬ 8000 < (⟨(textL nd.sub []).toArray⟩ : ByteArray).size by show ¬ 8000 < (textL nd.sub []).length; omega)]
  rw [show (⟨(textL nd.sub []).toArray⟩ : ByteArray).data.toList = textL nd.sub [] from rfl, hp]
  simp only [PR.app, List.append_nil, show tok [] = [] from rfl, if_true]
  rw [← hS.root, hv]
end Go.Proofs.YtfbbfhhhfbibjaaGreatDoor
