/-
  evolve's edit: one line, whatever it is.
-/
import Derived.Test.YtnmhkafpgohefaaGreatDoorEditM
import Derived.Test.YtnmhkafpgohefaaGreatDoorEditU
import Derived.Test.YtnmhkafpgohefaaGreatDoorShort
import Derived.Test.YtnmhkafpgohefaaGreatDoorSevLaw
set_option linter.unusedVariables false
set_option maxHeartbeats 20000000
set_option maxRecDepth 100000
set_option linter.unusedSimpArgs false
namespace Go.Proofs.YtnmhkafpgohefaaGreatDoor
open Go.RowKit
theorem many_cases {s : ByteArray} {k : Int} (h : manyF s = some k) : (k = 1 ∧ (s = bDrop ∨ s = bWiden ∨ s = bLoosen)) ∨ (k = 2 ∧ (s = bRename ∨ s = bMove)) := by
 unfold manyF at h
 split at h
 ·cases h; exact .inl ⟨rfl, .inl (by assumption)⟩
 split at h
 ·cases h; exact .inr ⟨rfl, .inl (by assumption)⟩
 split at h
 ·cases h; exact .inr ⟨rfl, .inr (by assumption)⟩
 split at h
 ·cases h; exact .inl ⟨rfl, .inr (.inl (by assumption))⟩
 split at h
 ·cases h; exact .inl ⟨rfl, .inr (.inr (by assumption))⟩
 cases h
theorem edit_any (B0 gb : Nat) (E : Er → Value) (N K : Value) (line : ByteArray) (l : List Nd) (nx m : Int) (F : List Nat) (w : World) (hG : EvG B0 E N K m w) (hl : line.size ≤ 10000) (hB : B0 ≤ gb) (hL : LogSt w B0 gb l nx F) (hn : (idsL l).Nodup) (hwe : Nd.weighs l ≤ 1000) (hnx : 0 ≤ nx ∧ nx ≤ 1000000) :
  Calls Tryz.prog 30 #[.pointer (some ⟨gb, 0, none⟩), .string line] w (RetEd B0 gb E N K (editW (wordsB line) l nx) F w) := by
 obtain ⟨w0, rest, hws⟩ : ∃ w0 rest, wordsB line = w0 :: rest := by
  cases h : wordsB line with
  | nil => have := words_len line; rw [h] at this; simp at this
  | cons a b => exact ⟨a, b, rfl⟩
 rw [hws]
 by_cases hadd : w0 = bAdd ∧ 2 ≤ rest.length
 ·obtain ⟨h0, h2⟩ := hadd
  match rest, h2, hws with
  | s1 :: x :: r, _, hws =>
   have he : editW (w0 :: s1 :: x :: r) l nx = addF s1 (mkB (joinW (x :: r))) l nx := by
    simp only [editW]
    rw [if_pos ⟨h0, by simp⟩]
   rw [he]
   exact edit_add B0 gb E N K line w0 s1 x r hws l nx m F w hG hl hB hL hn hwe hnx h0
  | [_], h2, _ => exact absurd h2 (by simp)
  | [], h2, _ => exact absurd h2 (by simp)
 have hna : w0 = bAdd → rest.length ≤ 1 := fun e => by
  have : ¬ 2 ≤ rest.length := fun h => hadd ⟨e, h⟩
  omega
 have hif : ∀ s1 r, rest = s1 :: r → ¬ (w0 = bAdd ∧ r ≠ []) := fun s1 r hr ⟨h1, h2⟩ => by
  have h3 := hna h1
  rw [hr, List.length_cons] at h3
  exact h2 (List.eq_nil_of_length_eq_zero (by omega))
 cases hm : manyF w0 with
 | none =>
  have he : editW (w0 :: rest) l nx = .bad (.er .text) := by
   cases rest with
   | nil => rfl
   | cons s1 r =>
    simp only [editW]
    rw [if_neg (hif s1 r rfl), hm]
  rw [he]
  exact edit_no B0 gb E N K line w0 rest hws l nx m F w hG hl hm hna
 | some k =>
  by_cases hlen : (rest.length : Int) = k
  ·rcases many_cases hm with ⟨rfl, hw⟩ | ⟨rfl, hw⟩
   ·match rest, hlen, hws, hif with
    | [s1], _, hws, hif =>
     cases hnum : numF s1.data.toList with
     | none =>
      have he : editW [w0, s1] l nx = .bad (.er .text) := by
       simp only [editW]
       rw [if_neg (hif s1 [] rfl), hm]
       dsimp only
       rw [if_neg (by simp), hnum]
      rw [he]
      exact edit_num1 B0 gb E N K line w0 s1 hws l nx m F w hG hl hm hnum
     | some id =>
      have hnm : w0 ≠ bMove := by rcases hw with rfl | rfl | rfl <;> decide +kernel
      have he : editW [w0, s1] l nx = opF w0 ⟨#[]⟩ id 0 l nx := by
       simp only [editW]
       rw [if_neg (hif s1 [] rfl), hm]
       dsimp only
       rw [if_neg (by simp), hnum]
       dsimp only
       rw [if_neg hnm]
       rfl
      rw [he]
      rcases hw with h | h | h
      ·exact edit_drop B0 gb E N K line w0 s1 hws l nx m F w hG hl hB hL hn h id hnum
      ·exact edit_widen B0 gb E N K line w0 s1 hws l nx m F w hG hl hB hL hn h id hnum
      ·exact edit_loosen B0 gb E N K line w0 s1 hws l nx m F w hG hl hB hL hn h id hnum
    | [], h, _, _ => exact absurd h (by simp)
    | _ :: _ :: _, h, _, _ => exact absurd h (by simp only [List.length_cons]; omega)
   ·match rest, hlen, hws, hif with
    | [s1, s2], _, hws, hif =>
     cases hnum : numF s1.data.toList with
     | none =>
      have he : editW [w0, s1, s2] l nx = .bad (.er .text) := by
       simp only [editW]
       rw [if_neg (hif s1 [s2] rfl), hm]
       dsimp only
       rw [if_neg (by simp), hnum]
      rw [he]
      exact edit_num2 B0 gb E N K line w0 s1 s2 hws l nx m F w hG hl hm hnum
     | some id =>
      rcases hw with h | h
      ·have hnm : w0 ≠ bMove := by rw [h]; decide +kernel
       have he : editW [w0, s1, s2] l nx = opF w0 s2 id 0 l nx := by
        simp only [editW]
        rw [if_neg (hif s1 [s2] rfl), hm]
        dsimp only
        rw [if_neg (by simp), hnum]
        dsimp only
        rw [if_neg hnm]
        rfl
       rw [he]
       exact edit_rename B0 gb E N K line w0 s1 s2 hws l nx m F w hG hl hB hL hn h id hnum
      ·cases hnum2 : numF s2.data.toList with
       | none =>
        have he : editW [w0, s1, s2] l nx = .bad (.er .text) := by
         simp only [editW]
         rw [if_neg (hif s1 [s2] rfl), hm]
         dsimp only
         rw [if_neg (by simp), hnum]
         dsimp only
         rw [if_pos h, hnum2]
        rw [he]
        exact edit_move_num B0 gb E N K line w0 s1 s2 hws l nx m F w hG hl h id hnum hnum2
       | some p =>
        have he : editW [w0, s1, s2] l nx = opF w0 s2 id p l nx := by
         simp only [editW]
         rw [if_neg (hif s1 [s2] rfl), hm]
         dsimp only
         rw [if_neg (by simp), hnum]
         dsimp only
         rw [if_pos h, hnum2]
        rw [he]
        exact edit_move B0 gb E N K line w0 s1 s2 hws l nx m F w hG hl hB hL hn hwe h id hnum p hnum2 (numF_pos hnum2)
    | [], h, _, _ => exact absurd h (by simp)
    | [_], h, _, _ => exact absurd h (by simp)
    | _ :: _ :: _ :: _, h, _, _ => exact absurd h (by simp only [List.length_cons]; omega)
  ·have he : editW (w0 :: rest) l nx = .bad (.er .text) := by
    cases rest with
    | nil => rfl
    | cons s1 r =>
     simp only [editW]
     rw [if_neg (hif s1 r rfl), hm]
     dsimp only
     rw [if_pos (by simp only [List.length_cons] at hlen ⊢; omega)]
   rw [he]
   exact edit_len B0 gb E N K line w0 rest hws l nx m F w hG hl k hm hlen
end Go.Proofs.YtnmhkafpgohefaaGreatDoor
