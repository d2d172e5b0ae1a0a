/-
 The words of a line by single blanks: what strings.Split gives, in plain words.
-/
import Derived.Test.YtgcmfpcgmkkobaaGreatDoorLineLaw
import Derived.Test.YtgcmfpcgmkkobaaGreatDoorJoin
import Derived.Lib.SplitLaws
import Derived.Lib.IndexLaws
import Derived.Lib.IndexBytes
set_option linter.unusedVariables false
set_option linter.unusedSimpArgs false
namespace Go.Proofs.YtgcmfpcgmkkobaaGreatDoor
open Go.RowKit

def splB : List UInt8 → List (List UInt8)
 | [] => [[]]
 | c :: l => if c = 32 then [] :: splB l else match splB l with
  | [] => [[c]]
  | w :: ws => (c :: w) :: ws
theorem splB_no : ∀ (l : List UInt8), (∀ b ∈ l, b ≠ 32) → splB l = [l]
 | [], _ => rfl
 | c :: l, h => by
  rw [splB, if_neg (h c (List.mem_cons_self ..)), splB_no l (fun b hb => h b (List.mem_cons_of_mem _ hb))]
theorem splB_app (b : List UInt8) : ∀ (a : List UInt8), (∀ x ∈ a, x ≠ 32) → splB (a ++ 32 :: b) = a :: splB b
 | [], _ => by rw [List.nil_append, splB, if_pos rfl]
 | c :: a, h => by
  rw [List.cons_append, splB, if_neg (h c (List.mem_cons_self ..)), splB_app b a (fun x hx => h x (List.mem_cons_of_mem _ hx))]
theorem splitK_eq : ∀ (k : Nat) (l : List UInt8), Lib.count l [32] = k → Lib.splitK [32] 0 k l = splB l := by
 intro k
 induction k with
 | zero =>
  intro l hk
  have hi : Lib.index l [32] = -1 := by
   rcases Int.lt_or_le (Lib.index l [32]) 0 with h | h
   ·have := Lib.index_ge l [32]; omega
   ·obtain ⟨i, hi⟩ := Int.eq_ofNat_of_zero_le h
    have := Lib.count_hit (by simp) hi
    omega
  rw [Lib.index_one] at hi
  refine (splB_no l fun b hb => ?_).symm
  rintro rfl
  obtain ⟨j, hj⟩ := List.mem_iff_getElem?.1 hb
  exact Lib.indexByte_none hi j hj
 | succ k ih =>
  intro l hk
  rcases Int.lt_or_le (Lib.index l [32]) 0 with h | h
  ·have h1 : Lib.index l [32] = -1 := by have := Lib.index_ge l [32]; omega
   rw [Lib.count_miss h1] at hk
   cases hk
  ·obtain ⟨i, hi⟩ := Int.eq_ofNat_of_zero_le h
   have hc := Lib.count_hit (by simp) hi
   have hib : Lib.indexByte l 32 = i := by rw [← Lib.index_one]; exact hi
   obtain ⟨h1, h2⟩ := Lib.indexByte_some hib
   obtain ⟨hlt, hge⟩ := List.getElem?_eq_some_iff.1 h1
   have hl : l = l.take i ++ 32 :: l.drop (i + 1) := by
    rw [← hge, ← List.drop_eq_getElem_cons hlt, List.take_append_drop]
   have hno : ∀ x ∈ l.take i, x ≠ (32 : UInt8) := fun x hx e => by
    subst e
    obtain ⟨j, hj⟩ := List.mem_iff_getElem?.1 hx
    have hji : j < i := by have := (List.getElem?_eq_some_iff.1 hj).1; rw [List.length_take] at this; omega
    rw [List.getElem?_take, if_pos hji] at hj
    exact h2 j hji hj
   have hne : ¬ ((i : Int) == -1) = true := fun e => by have := beq_iff_eq.1 e; omega
   rw [Lib.splitK, hi, if_neg hne, Int.toNat_natCast, Nat.add_zero, List.length_singleton]
   rw [ih (l.drop (i + 1)) (by simp only [List.length_singleton] at hc; omega)]
   conv => rhs; rw [hl]
   rw [splB_app _ _ hno]
def wordsB (s : ByteArray) : List ByteArray := (splB s.data.toList).map mkB
theorem mkB_back (s : ByteArray) : mkB s.data.toList = s := by cases s; rfl
theorem split_words (s : ByteArray) : Lib.splitB ⟨#[32]⟩ 0 (Lib.countB s ⟨#[32]⟩) s = wordsB s := by
 have h := Lib.splitB_data ⟨#[32]⟩ 0 (Lib.countB s ⟨#[32]⟩) s
 rw [show (⟨#[32]⟩ : ByteArray).data.toList = [32] from rfl, splitK_eq _ _ rfl] at h
 unfold wordsB
 rw [← h, List.map_map]
 have : (mkB ∘ fun x : ByteArray => x.data.toList) = id := funext mkB_back
 rw [this, List.map_id]
theorem words_len (s : ByteArray) : (wordsB s).length = Lib.countB s ⟨#[32]⟩ + 1 := by
 rw [← split_words]
 exact Lib.splitB_all ⟨#[32]⟩ (by decide) 0 _ s rfl
/-- Words with single blanks between. -/
def joinL : List (List UInt8) → List UInt8
 | [] => []
 | [w] => w
 | w :: ws => w ++ 32 :: joinL ws
theorem joinL_cons {w : List UInt8} {ws : List (List UInt8)} (h : ws ≠ []) : joinL (w :: ws) = w ++ 32 :: joinL ws := by
 cases ws with
 | nil => exact absurd rfl h
 | cons x xs => rfl
theorem splB_ne (l : List UInt8) : splB l ≠ [] := by
 cases l with
 | nil => simp [splB]
 | cons c l =>
  rw [splB]
  split
  ·simp
  ·split <;> simp
theorem joinL_spl : ∀ l : List UInt8, joinL (splB l) = l
 | [] => rfl
 | c :: l => by
  rw [splB]
  split
  ·rename_i h
   rw [joinL_cons (splB_ne l), joinL_spl l, h]; rfl
  ·have ih := joinL_spl l
   split
   ·rename_i h1; exact absurd h1 (splB_ne l)
   ·rename_i w ws h1
    rw [h1] at ih
    cases ws with
    | nil => simp only [joinL] at ih ⊢; rw [ih]
    | cons x xs => rw [joinL_cons (by simp)] at ih ⊢; rw [← ih]; rfl
theorem spl_joinL : ∀ ws : List (List UInt8), ws ≠ [] → (∀ w ∈ ws, ∀ b ∈ w, b ≠ 32) → splB (joinL ws) = ws
 | [], h, _ => absurd rfl h
 | [w], _, h => splB_no w (h w (List.mem_cons_self ..))
 | w :: x :: xs, _, h => by
  rw [joinL_cons (by simp), splB_app _ _ (h w (List.mem_cons_self ..)), spl_joinL (x :: xs) (by simp) (fun y hy => h y (List.mem_cons_of_mem _ hy))]
theorem joinW_mk : ∀ ws : List (List UInt8), joinW (ws.map mkB) = joinL ws
 | [] => rfl
 | [w] => by simp [joinW, blanks, joinL, mkB_data]
 | w :: x :: xs => by
  have ih := joinW_mk (x :: xs)
  rw [joinL_cons (by simp), ← ih]
  simp [joinW, blanks, mkB_data]
theorem joinW_words (s : ByteArray) : joinW (wordsB s) = s.data.toList := by
 unfold wordsB
 rw [joinW_mk, joinL_spl]
theorem spl_sum : ∀ l : List UInt8, ∀ w ∈ splB l, w.length ≤ l.length
 | [], w, h => by
  rw [splB, List.mem_singleton] at h
  subst h; exact Nat.le_refl _
 | c :: l, w, h => by
  have ih := spl_sum l
  rw [splB] at h
  split at h
  ·rcases List.mem_cons.1 h with rfl | h
   ·exact Nat.zero_le _
   ·have := ih w h; simp only [List.length_cons]; omega
  ·split at h
   ·rename_i h1; exact absurd h1 (splB_ne l)
   ·rename_i v vs h1
    rcases List.mem_cons.1 h with rfl | h
    ·have := ih v (by rw [h1]; exact List.mem_cons_self ..); simp only [List.length_cons]; omega
    ·have := ih w (by rw [h1]; exact List.mem_cons_of_mem _ h); simp only [List.length_cons]; omega
theorem words_size (s : ByteArray) : ∀ x ∈ wordsB s, x.size ≤ s.size := by
 intro x hx
 obtain ⟨w, hw, rfl⟩ := List.mem_map.1 hx
 have := spl_sum _ w hw
 rwa [length_data] at this
theorem spl_count : ∀ l : List UInt8, (splB l).length ≤ l.length + 1
 | [] => Nat.le_refl _
 | c :: l => by
  have ih := spl_count l
  rw [splB]
  split
  ·simp only [List.length_cons]; omega
  ·split
   ·simp
   ·rename_i v vs h1
    rw [h1] at ih
    simp only [List.length_cons] at ih ⊢
    omega
theorem words_count (s : ByteArray) : (wordsB s).length ≤ s.size + 1 := by
 have := spl_count s.data.toList
 rw [length_data] at this
 unfold wordsB
 rwa [List.length_map]
end Go.Proofs.YtgcmfpcgmkkobaaGreatDoor
