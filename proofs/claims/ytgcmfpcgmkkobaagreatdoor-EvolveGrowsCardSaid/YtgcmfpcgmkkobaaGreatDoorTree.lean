/-
  A name: one to twelve small letters (schema.isName).; A tree of nodes that is written in place: each list of nodes lies in a row of its own; the blocks are listed, none stands twice. What becomes of the tree when one of its nodes is written.
-/
import Derived.Test.YtgcmfpcgmkkobaaGreatDoorShelf
import Derived.Test.YtgcmfpcgmkkobaaGreatDoorWalk
import Derived.Shelf.Strings.SlTrimAscii
import Derived.Test.YtgcmfpcgmkkobaaGreatDoorNode
set_option linter.unusedVariables false
set_option maxHeartbeats 20000000
set_option maxRecDepth 100000
set_option linter.unusedSimpArgs false
namespace Go.Proofs.YtgcmfpcgmkkobaaGreatDoor
open Go.RowKit
def letters : List UInt8 := [97, 98, 99, 100, 101, 102, 103, 104, 105, 106, 107, 108, 109, 110, 111, 112, 113, 114, 115, 116, 117, 118, 119, 120, 121, 122]
def lower (b : UInt8) : Bool := decide (97 ≤ b.toNat ∧ b.toNat ≤ 122)
theorem letters_contains (b : UInt8) : letters.contains b = lower b := by
 have key : ∀ n : Fin 256, letters.contains (UInt8.ofNat n.val) = lower (UInt8.ofNat n.val) := by decide +kernel
 have := key ⟨b.toNat, b.toNat_lt⟩
 simpa using this
theorem dropWhile_nil {p : UInt8 → Bool} : ∀ {l : List UInt8}, l.dropWhile p = [] ↔ l.all p = true
 | [] => by simp
 | x :: xs => by
  simp only [List.dropWhile_cons, List.all_cons]
  cases hp : p x
  ·simp
  ·simp only [if_true, Bool.true_and]; exact dropWhile_nil
theorem dropWhile_head {p : UInt8 → Bool} : ∀ {l : List UInt8} {x : UInt8} {xs : List UInt8}, l.dropWhile p = x :: xs → p x = false
 | [], x, xs, h => by simp at h
 | y :: ys, x, xs, h => by
  simp only [List.dropWhile_cons] at h
  cases hp : p y
  ·rw [hp] at h; simp only [Bool.false_eq_true, if_false] at h; injection h with h1 _; rw [← h1]; exact hp
  ·rw [hp] at h; simp only [if_true] at h; exact dropWhile_head h
theorem trimS_nil (l cs : List UInt8) : Lib.trimS l cs = [] ↔ l.all (cs.contains ·) = true := by
 unfold Lib.trimS Lib.trimLeftS Lib.trimRightS
 rw [dropWhile_nil]
 constructor
 ·intro h
  cases hr : l.reverse.dropWhile (cs.contains ·) with
  | nil =>
   have := dropWhile_nil.1 hr
   simpa using this
  | cons x xs =>
   have h1 := dropWhile_head hr
   rw [hr] at h
   simp only [List.reverse_cons, List.all_append, List.all_cons, List.all_nil, Bool.and_true, Bool.and_eq_true] at h
   rw [h1] at h
   cases h.2
 ·intro h
  have : l.reverse.dropWhile (cs.contains ·) = [] := dropWhile_nil.2 (by simpa using h)
  rw [this]; rfl
def isNameB (s : ByteArray) : Bool := decide (s.size ≠ 0) && decide (s.size ≤ 12) && s.data.toList.all lower
def abc : ByteArray := ⟨#[97, 98, 99, 100, 101, 102, 103, 104, 105, 106, 107, 108, 109, 110, 111, 112, 113, 114, 115, 116, 117, 118, 119, 120, 121, 122]⟩
theorem abc_size : abc.size < 4294967281 := by decide
theorem abc_ascii : abc.data.toList.all (fun b => decide (b.toNat < 128)) = true := by decide +kernel
theorem trim_letters (s : ByteArray) (w : World) (hs : s.size ≤ 9223372036854775807) :
  Calls Tryz.prog 95 #[.string s, .string abc] w fun e w' => e = .returned (.string ⟨(Lib.trimS s.data.toList letters).toArray⟩) ∧ Below w.heap.size w w' :=
 Any.strings_Trim_laid Tryz.lays160 (by kernel_rfl) s abc w hs abc_size (ascii_of_all abc_ascii)
theorem empty_of_size {s : ByteArray} (h : s.size = 0) : s = ⟨#[]⟩ := by
 cases s with
 | mk d =>
  congr
  exact Array.eq_empty_of_size_eq_zero h
theorem toList_isEmpty {s : ByteArray} (h : s.size ≠ 0) : s.toList.isEmpty = false := by
 rw [Lib.toList_data]
 cases hl : s.data.toList with
 | nil => exact absurd (by rw [ByteArray.size, ← Array.length_toList, hl]; rfl) h
 | cons x xs => rfl
theorem isName_any (s : ByteArray) (w : World) (hs : s.size ≤ 9223372036854775807) :
  Calls Tryz.prog 67 #[.string s] w (RetV (.bool (isNameB s)) w) := by
 by_cases h0 : s.size = 0
 ·have := empty_of_size h0
  subst this
  have h1 : isNameB ⟨#[]⟩ = false := by rfl
  go_enter Tryz.func67, Tryz.ntmps67
  go_wp2_with fail
  go_ret
  rw [h1]
  exact ⟨rfl, Chg.refl _ _⟩
 have hne : s.toList.isEmpty = false := toList_isEmpty h0
 by_cases h1 : s.size ≤ 12
 ·have h1' : (s.size : Int) ≤ 12 := by omega
  go_enter Tryz.func67, Tryz.ntmps67
  go_wp2_with fail
  refine (trim_letters s w hs).mono ?_
  rintro e w1 ⟨rfl, hc⟩
  have hc1 := Chg.ofBelow hc
  clear hc
  have key : isNameB s = (Lib.trimS s.data.toList letters).isEmpty := by
   have h2 := trimS_nil s.data.toList letters
   simp only [letters_contains] at h2
   unfold isNameB
   rw [decide_eq_true h0, decide_eq_true h1, Bool.true_and, Bool.true_and, Bool.eq_iff_iff, ← h2]
   exact List.isEmpty_iff.symm
  have Key := Lib.hid key
  clear key
  generalize Lib.trimS s.data.toList letters = t at Key ⊢
  cases t with
  | nil =>
   go_wp2_with fail
   go_ret
   rw [Key.out]
   exact ⟨rfl, hc1⟩
  | cons x xs =>
   have hx : (⟨(x :: xs).toArray⟩ : ByteArray).toList.isEmpty = false := toList_isEmpty (by simp [ByteArray.size])
   go_wp2_with fail
   go_ret
   rw [Key.out]
   exact ⟨rfl, hc1⟩
 ·have h1' : ¬ (s.size : Int) ≤ 12 := by omega
  have h2 : isNameB s = false := by simp [isNameB, h1]
  go_enter Tryz.func67, Tryz.ntmps67
  go_wp2_with fail
  go_ret
  exact ⟨rfl, Chg.refl _ _⟩
mutual
def TrN (w : World) (B : Nat) : Nd → List Value → List Nat → Prop
 | .mk i n r k s, cs, F => ∃ v, cs = ndCells i n r k v ∧ ((s = [] ∧ v = .slice none 0 0 ∧ F = []) ∨
   ∃ b cap cur F', v = .slice (some ⟨b, 0, none⟩) s.length cap ∧ s.length ≤ cap ∧ cap ≤ maxLen ∧ B ≤ b ∧ Blk w b cur 28 ∧ cur.length = cap * 5 ∧ TrC w B s cur F' ∧ F = b :: F')
def TrC (w : World) (B : Nat) : List Nd → List Value → List Nat → Prop
 | [], _, F => F = []
 | n :: ns, xs, F => ∃ c r F1 F2, xs = c ++ r ∧ TrN w B n c F1 ∧ TrC w B ns r F2 ∧ F = F1 ++ F2
end
def TrL (w : World) (B : Nat) (s : List Nd) (v : Value) (F : List Nat) : Prop :=
 (s = [] ∧ v = .slice none 0 0 ∧ F = []) ∨
  ∃ b cap cur F', v = .slice (some ⟨b, 0, none⟩) s.length cap ∧ s.length ≤ cap ∧ cap ≤ maxLen ∧ B ≤ b ∧ Blk w b cur 28 ∧ cur.length = cap * 5 ∧ TrC w B s cur F' ∧ F = b :: F'
theorem trN {w : World} {B : Nat} {i : Int} {n : ByteArray} {r k : Int} {s : List Nd} {cs : List Value} {F : List Nat} :
  TrN w B (.mk i n r k s) cs F ↔ ∃ v, cs = ndCells i n r k v ∧ TrL w B s v F := by
 simp only [TrN, TrL]
theorem trC_cons {w : World} {B : Nat} {n : Nd} {ns : List Nd} {xs : List Value} {F : List Nat} :
  TrC w B (n :: ns) xs F ↔ ∃ c r F1 F2, xs = c ++ r ∧ TrN w B n c F1 ∧ TrC w B ns r F2 ∧ F = F1 ++ F2 := by
 simp only [TrC]
theorem trC_nil {w : World} {B : Nat} {xs : List Value} {F : List Nat} : TrC w B [] xs F ↔ F = [] := by
 simp only [TrC]
mutual
theorem TrN.keep {w w' : World} {B : Nat} : ∀ (n : Nd) (cs : List Value) (F : List Nat), TrN w B n cs F → (∀ k ∈ F, w'.heap[k]? = w.heap[k]?) → TrN w' B n cs F
 | .mk i nm r k s, cs, F, h, hk => by
  obtain ⟨v, h1, h2⟩ := trN.1 h
  refine trN.2 ⟨v, h1, ?_⟩
  rcases h2 with h2 | ⟨b, cap, cur, F', e1, e2, e3, e4, e5, e6, e7, rfl⟩
  ·exact .inl h2
  ·exact .inr ⟨b, cap, cur, F', e1, e2, e3, e4, (hk b (List.mem_cons_self ..)).trans e5, e6, TrC.keep s cur F' e7 (fun k hk' => hk k (List.mem_cons_of_mem _ hk')), rfl⟩
theorem TrC.keep {w w' : World} {B : Nat} : ∀ (s : List Nd) (xs : List Value) (F : List Nat), TrC w B s xs F → (∀ k ∈ F, w'.heap[k]? = w.heap[k]?) → TrC w' B s xs F
 | [], xs, F, h, _ => trC_nil.2 (trC_nil.1 h)
 | n :: ns, xs, F, h, hk => by
  obtain ⟨c, r, F1, F2, h1, h2, h3, rfl⟩ := trC_cons.1 h
  exact trC_cons.2 ⟨c, r, F1, F2, h1, TrN.keep n c F1 h2 (fun k x => hk k (List.mem_append_left _ x)), TrC.keep ns r F2 h3 (fun k x => hk k (List.mem_append_right _ x)), rfl⟩
end
theorem TrL.keep {w w' : World} {B : Nat} {s : List Nd} {v : Value} {F : List Nat} (h : TrL w B s v F) (hk : ∀ k ∈ F, w'.heap[k]? = w.heap[k]?) : TrL w' B s v F := by
 rcases h with h | ⟨b, cap, cur, F', e1, e2, e3, e4, e5, e6, e7, rfl⟩
 ·exact .inl h
 ·exact .inr ⟨b, cap, cur, F', e1, e2, e3, e4, (hk b (List.mem_cons_self ..)).trans e5, e6, TrC.keep s cur F' e7 (fun k hk' => hk k (List.mem_cons_of_mem _ hk')), rfl⟩
mutual
theorem TrN.lt {w : World} {B : Nat} : ∀ (n : Nd) (cs : List Value) (F : List Nat), TrN w B n cs F → ∀ k ∈ F, B ≤ k ∧ k < w.heap.size
 | .mk i nm r k s, cs, F, h => by
  obtain ⟨v, h1, h2⟩ := trN.1 h
  rcases h2 with ⟨_, _, rfl⟩ | ⟨b, cap, cur, F', e1, e2, e3, e4, e5, e6, e7, rfl⟩
  ·exact fun k hk => (List.not_mem_nil hk).elim
  ·intro k hk
   rcases List.mem_cons.1 hk with rfl | hk
   ·exact ⟨e4, e5.lt⟩
   ·exact TrC.lt s cur F' e7 k hk
theorem TrC.lt {w : World} {B : Nat} : ∀ (s : List Nd) (xs : List Value) (F : List Nat), TrC w B s xs F → ∀ k ∈ F, B ≤ k ∧ k < w.heap.size
 | [], xs, F, h => by
  obtain rfl := trC_nil.1 h
  exact fun k hk => (List.not_mem_nil hk).elim
 | n :: ns, xs, F, h => by
  obtain ⟨c, r, F1, F2, h1, h2, h3, rfl⟩ := trC_cons.1 h
  intro k hk
  rcases List.mem_append.1 hk with hk | hk
  ·exact TrN.lt n c F1 h2 k hk
  ·exact TrC.lt ns r F2 h3 k hk
end
theorem TrL.lt {w : World} {B : Nat} {s : List Nd} {v : Value} {F : List Nat} (h : TrL w B s v F) : ∀ k ∈ F, B ≤ k ∧ k < w.heap.size :=
 TrN.lt (.mk 0 ⟨#[]⟩ 0 0 s) _ F (trN.2 ⟨v, rfl, h⟩)
theorem TrN.five {w : World} {B : Nat} {n : Nd} {cs : List Value} {F : List Nat} (h : TrN w B n cs F) : cs.length = 5 := by
 cases n
 obtain ⟨v, rfl, _⟩ := trN.1 h
 rfl
mutual
theorem TrN.mono {w : World} {B B' : Nat} (hB : B' ≤ B) : ∀ (n : Nd) (cs : List Value) (F : List Nat), TrN w B n cs F → TrN w B' n cs F
 | .mk i nm r k s, cs, F, h => by
  obtain ⟨v, h1, h2⟩ := trN.1 h
  refine trN.2 ⟨v, h1, ?_⟩
  rcases h2 with h2 | ⟨b, cap, cur, F', e1, e2, e3, e4, e5, e6, e7, rfl⟩
  ·exact .inl h2
  ·exact .inr ⟨b, cap, cur, F', e1, e2, e3, Nat.le_trans hB e4, e5, e6, TrC.mono hB s cur F' e7, rfl⟩
theorem TrC.mono {w : World} {B B' : Nat} (hB : B' ≤ B) : ∀ (s : List Nd) (xs : List Value) (F : List Nat), TrC w B s xs F → TrC w B' s xs F
 | [], xs, F, h => trC_nil.2 (trC_nil.1 h)
 | n :: ns, xs, F, h => by
  obtain ⟨c, r, F1, F2, h1, h2, h3, rfl⟩ := trC_cons.1 h
  exact trC_cons.2 ⟨c, r, F1, F2, h1, TrN.mono hB n c F1 h2, TrC.mono hB ns r F2 h3, rfl⟩
end
theorem TrL.mono {w : World} {B B' : Nat} {s : List Nd} {v : Value} {F : List Nat} (h : TrL w B s v F) (hB : B' ≤ B) : TrL w B' s v F := by
 obtain ⟨v', h1, h2⟩ := trN.1 (TrN.mono hB (.mk 0 ⟨#[]⟩ 0 0 s) _ F (trN.2 ⟨v, rfl, h⟩))
 have h3 : v = v' := by simpa [ndCells] using h1
 exact h3 ▸ h2
mutual
theorem TrN.reads {w : World} {B : Nat} {S : Nat → Prop} : ∀ (n : Nd) (cs : List Value) (F : List Nat), TrN w B n cs F → (∀ k ∈ F, S k) → Reads w S n.dt cs
 | .mk i nm r k s, cs, F, h, hS => by
  obtain ⟨v, h1, h2⟩ := trN.1 h
  refine reads_nd.2 ⟨v, h1, ?_⟩
  rcases h2 with ⟨rfl, rfl, _⟩ | ⟨b, cap, cur, F', rfl, e2, e3, e4, e5, e6, e7, rfl⟩
  ·exact ⟨none, 0, rfl, Nat.le_refl _, Nat.zero_le _, .inl ⟨rfl, fun _ => rfl⟩⟩
  ·have hl : (Nd.dts s).length = s.length := by rw [Nd.dts_eq, List.length_map]
   refine ⟨some ⟨b, 0, none⟩, cap, by rw [hl], by rw [hl]; exact e2, e3, .inr ⟨b, 0, rfl, hS b (List.mem_cons_self ..), e5.lt, ?_⟩⟩
   exact TrC.readsE s cur F' e7 (fun k hk => hS k (List.mem_cons_of_mem _ hk)) b 0 (fun j c hj => by rw [Nat.zero_add, e5.cell j]; exact hj)
theorem TrC.readsE {w : World} {B : Nat} {S : Nat → Prop} : ∀ (s : List Nd) (xs : List Value) (F : List Nat), TrC w B s xs F → (∀ k ∈ F, S k) → ∀ (b off : Nat), (∀ j c, xs[j]? = some c → w.cell? ⟨b, off + j, none⟩ = some c) → ReadsE w S 5 b off (Nd.dts s)
 | [], xs, F, h, _, _, _, _ => True.intro
 | n :: ns, xs, F, h, hS, b, off, hc => by
  obtain ⟨c, r, F1, F2, rfl, h2, h3, rfl⟩ := trC_cons.1 h
  have h5 := h2.five
  refine ⟨⟨c, h5, fun j x hj => hc j x ?_, TrN.reads n c F1 h2 (fun k x => hS k (List.mem_append_left _ x))⟩, TrC.readsE ns r F2 h3 (fun k x => hS k (List.mem_append_right _ x)) b (off + 5) (fun j x hj => ?_)⟩
  ·rw [List.getElem?_append_left (List.getElem?_eq_some_iff.1 hj).1]; exact hj
  ·have := hc (5 + j) x (by rw [List.getElem?_append_right (by omega), h5]; simpa using hj)
   rw [← Nat.add_assoc] at this
   exact this
end
theorem TrL.reads {w : World} {B : Nat} {S : Nat → Prop} {s : List Nd} {v : Value} {F : List Nat} (h : TrL w B s v F) (hS : ∀ k ∈ F, S k) : Reads w S (.list 5 (Nd.dts s)) [v] := by
 obtain ⟨v', h1, h2⟩ := reads_nd.1 (TrN.reads (S := S) (.mk 0 ⟨#[]⟩ 0 0 s) _ F (trN.2 ⟨v, rfl, h⟩) hS)
 have h3 : v = v' := by simpa [ndCells] using h1
 exact h3 ▸ h2
theorem TrL.form {w : World} {B : Nat} {s : List Nd} {v : Value} {F : List Nat} (h : TrL w B s v F) : ∃ a c, v = .slice a s.length c ∧ s.length ≤ c ∧ c ≤ maxLen := by
 rcases h with ⟨rfl, rfl, _⟩ | ⟨b, cap, cur, F', rfl, e2, e3, _⟩
 ·exact ⟨none, 0, rfl, Nat.le_refl _, Nat.zero_le _⟩
 ·exact ⟨_, _, rfl, e2, e3⟩
theorem trC_split {w : World} {B : Nat} : ∀ {l1 l2 : List Nd} {xs : List Value} {F : List Nat}, TrC w B (l1 ++ l2) xs F ↔ ∃ x1 x2 F1 F2, xs = x1 ++ x2 ∧ x1.length = l1.length * 5 ∧ TrC w B l1 x1 F1 ∧ TrC w B l2 x2 F2 ∧ F = F1 ++ F2
 | [], l2, xs, F => by
  constructor
  ·intro h
   exact ⟨[], xs, [], F, rfl, rfl, trC_nil.2 rfl, h, rfl⟩
  ·rintro ⟨x1, x2, F1, F2, rfl, h1, h2, h3, rfl⟩
   obtain rfl := List.eq_nil_of_length_eq_zero h1
   obtain rfl := trC_nil.1 h2
   exact h3
 | n :: l1, l2, xs, F => by
  rw [List.cons_append, trC_cons]
  constructor
  ·rintro ⟨c, r, F1, F2, rfl, h2, h3, rfl⟩
   obtain ⟨x1, x2, G1, G2, rfl, g1, g2, g3, rfl⟩ := trC_split.1 h3
   exact ⟨c ++ x1, x2, F1 ++ G1, G2, by rw [List.append_assoc], by rw [List.length_append, h2.five, g1, List.length_cons]; omega, trC_cons.2 ⟨c, x1, F1, G1, rfl, h2, g2, rfl⟩, g3, by rw [List.append_assoc]⟩
  ·rintro ⟨x1, x2, F1, F2, rfl, h1, h2, h3, rfl⟩
   obtain ⟨c, r, G1, G2, rfl, g1, g2, rfl⟩ := trC_cons.1 h2
   rw [List.length_append, g1.five, List.length_cons] at h1
   exact ⟨c, r ++ x2, G1, G2 ++ F2, by rw [List.append_assoc], g1, trC_split.2 ⟨r, x2, G2, F2, rfl, by omega, g2, h3, rfl⟩, by rw [List.append_assoc]⟩
theorem TrC.junk {w : World} {B : Nat} {l : List Nd} {xs : List Value} {F : List Nat} (h : TrC w B l xs F) : ∃ x1 x2, xs = x1 ++ x2 ∧ x1.length = l.length * 5 ∧ TrC w B l x1 F := by
 obtain ⟨x1, x2, F1, F2, h1, h2, h3, h4, rfl⟩ := trC_split.1 (show TrC w B (l ++ []) xs F by rw [List.append_nil]; exact h)
 obtain rfl := trC_nil.1 h4
 exact ⟨x1, x2, h1, h2, by rw [List.append_nil]; exact h3⟩
theorem TrC.more {w : World} {B : Nat} {l : List Nd} {xs : List Value} {F : List Nat} (h : TrC w B l xs F) (ys : List Value) : TrC w B l (xs ++ ys) F := by
 obtain ⟨x1, x2, rfl, h2, h3⟩ := h.junk
 have := trC_split.2 ⟨x1, x2 ++ ys, F, [], rfl, h2, h3, trC_nil.2 rfl, rfl⟩
 rw [List.append_nil, List.append_nil] at this
 rw [List.append_assoc]
 exact this
theorem TrC.chunks {w : World} {B : Nat} : ∀ {s : List Nd} {xs : List Value} {F : List Nat}, TrC w B s xs F →
  ∃ (L : List (Nd × List Value × List Nat)) (r : List Value), L.map (·.1) = s ∧ xs = L.flatMap (·.2.1) ++ r ∧ F = L.flatMap (·.2.2) ∧ ∀ x ∈ L, TrN w B x.1 x.2.1 x.2.2
 | [], xs, F, h => ⟨[], xs, rfl, rfl, trC_nil.1 h, fun x hx => (List.not_mem_nil hx).elim⟩
 | n :: ns, xs, F, h => by
  obtain ⟨c, r, F1, F2, rfl, h2, h3, rfl⟩ := trC_cons.1 h
  obtain ⟨L, q, rfl, rfl, rfl, h4⟩ := h3.chunks
  refine ⟨(n, c, F1) :: L, q, rfl, by simp, by simp, fun x hx => ?_⟩
  rcases List.mem_cons.1 hx with rfl | hx
  ·exact h2
  ·exact h4 x hx
theorem TrC.ofChunks {w : World} {B : Nat} : ∀ (L : List (Nd × List Value × List Nat)) (r : List Value), (∀ x ∈ L, TrN w B x.1 x.2.1 x.2.2) → TrC w B (L.map (·.1)) (L.flatMap (·.2.1) ++ r) (L.flatMap (·.2.2))
 | [], r, h => trC_nil.2 rfl
 | x :: L, r, h => by
  refine trC_cons.2 ⟨x.2.1, L.flatMap (·.2.1) ++ r, x.2.2, L.flatMap (·.2.2), by simp, h x (List.mem_cons_self ..), TrC.ofChunks L r (fun y hy => h y (List.mem_cons_of_mem _ hy)), by simp⟩
def PtN (w : World) (B b o : Nat) (n : Nd) (F : List Nat) : Prop :=
 ∃ pre cs post T, pre.length = o ∧ Blk w b (pre ++ (cs ++ post)) T ∧ TrN w B n cs F ∧ b ∉ F ∧ F.Nodup
structure Upd (w : World) (B b o : Nat) (n : Nd) (F : List Nat) (w' : World) (n' : Nd) (F' : List Nat) : Prop where
 cells : ∃ pre cs cs' post T, pre.length = o ∧ Blk w b (pre ++ (cs ++ post)) T ∧ Blk w' b (pre ++ (cs' ++ post)) T ∧ TrN w B n cs F ∧ TrN w' B n' cs' F'
 out : b ∉ F
 out' : b ∉ F'
 nd : F.Nodup
 nd' : F'.Nodup
 sub : ∀ k ∈ F', k ∈ F ∨ w.heap.size ≤ k
 chg : Chg (fun k => k = b ∨ k ∈ F) w w'
theorem PtN.refl {w : World} {B b o : Nat} {n : Nd} {F : List Nat} (h : PtN w B b o n F) : Upd w B b o n F w n F := by
 obtain ⟨pre, cs, post, T, h1, h2, h3, h4, h5⟩ := h
 exact ⟨⟨pre, cs, cs, post, T, h1, h2, h2, h3, h3⟩, h4, h4, h5, h5, fun k hk => .inl hk, Chg.refl _ _⟩
theorem Upd.pt {w w' : World} {B b o : Nat} {n n' : Nd} {F F' : List Nat} (h : Upd w B b o n F w' n' F') : PtN w B b o n F := by
 obtain ⟨pre, cs, cs', post, T, h1, h2, h3, h4, h5⟩ := h.cells
 exact ⟨pre, cs, post, T, h1, h2, h4, h.out, h.nd⟩
theorem Upd.pt' {w w' : World} {B b o : Nat} {n n' : Nd} {F F' : List Nat} (h : Upd w B b o n F w' n' F') : PtN w' B b o n' F' := by
 obtain ⟨pre, cs, cs', post, T, h1, h2, h3, h4, h5⟩ := h.cells
 exact ⟨pre, cs', post, T, h1, h3, h5, h.out', h.nd'⟩
theorem blk_eq {w : World} {b : Nat} {cs cs' : List Value} {t t' : TypeId} (h : Blk w b cs t) (h' : Blk w b cs' t') : cs = cs' ∧ t = t' := by
 have h1 := h.symm.trans h'
 simp only [Option.some.injEq, Obj.cells.injEq, and_true] at h1
 exact ⟨by simpa using congrArg Array.toList h1.1, h1.2⟩
mutual
theorem TrN.one {w : World} {B : Nat} : ∀ (n : Nd) (cs : List Value) (F F' : List Nat), TrN w B n cs F → TrN w B n cs F' → F = F'
 | .mk i nm r k s, cs, F, F', h, h' => by
  obtain ⟨v, h1, h2⟩ := trN.1 h
  obtain ⟨v', h1', h2'⟩ := trN.1 h'
  have hv : v = v' := by simpa [ndCells] using h1.symm.trans h1'
  subst hv
  rcases h2 with ⟨_, rfl, rfl⟩ | ⟨b, cap, cur, G, rfl, e2, e3, e4, e5, e6, e7, rfl⟩
  ·rcases h2' with ⟨_, _, rfl⟩ | ⟨b, cap, cur, G, e1, _⟩
   ·rfl
   ·cases e1
  ·rcases h2' with ⟨_, g1, rfl⟩ | ⟨b', cap', cur', G', g1, g2, g3, g4, g5, g6, g7, rfl⟩
   ·cases g1
   ·obtain ⟨ha, -, rfl⟩ := Value.slice.inj g1
    obtain rfl : b = b' := by simpa using ha
    obtain ⟨rfl, _⟩ := blk_eq e5 g5
    rw [TrC.one s cur G G' e7 g7]
theorem TrC.one {w : World} {B : Nat} : ∀ (s : List Nd) (xs : List Value) (F F' : List Nat), TrC w B s xs F → TrC w B s xs F' → F = F'
 | [], xs, F, F', h, h' => (trC_nil.1 h).trans (trC_nil.1 h').symm
 | n :: ns, xs, F, F', h, h' => by
  obtain ⟨c, r, F1, F2, rfl, h2, h3, rfl⟩ := trC_cons.1 h
  obtain ⟨c', r', G1, G2, e, g2, g3, rfl⟩ := trC_cons.1 h'
  obtain ⟨rfl, rfl⟩ := List.append_inj e (h2.five.trans g2.five.symm)
  rw [TrN.one n c F1 G1 h2 g2, TrC.one ns r F2 G2 h3 g3]
end
theorem PtN.one {w : World} {B b o : Nat} {n : Nd} {F F' : List Nat} (h : PtN w B b o n F) (h' : PtN w B b o n F') : F = F' := by
 obtain ⟨pre, cs, post, T, h1, h2, h3, _⟩ := h
 obtain ⟨pre2, ds, post2, T2, g1, g2, g3, _⟩ := h'
 obtain ⟨e1, rfl⟩ := blk_eq h2 g2
 obtain ⟨rfl, e2⟩ := List.append_inj e1 (h1.trans g1.symm)
 obtain ⟨rfl, rfl⟩ := List.append_inj e2 (h3.five.trans g3.five.symm)
 exact TrN.one n cs F F' h3 g3
theorem Upd.trans {w w1 w2 : World} {B b o : Nat} {n n1 n2 : Nd} {F F1 F2 : List Nat} (h : Upd w B b o n F w1 n1 F1) (k : Upd w1 B b o n1 F1 w2 n2 F2) : Upd w B b o n F w2 n2 F2 := by
 obtain ⟨pre, cs, cs', post, T, h1, h2, h3, h4, h5⟩ := h.cells
 obtain ⟨pre2, ds, ds', post2, T2, g1, g2, g3, g4, g5⟩ := k.cells
 obtain ⟨e1, rfl⟩ := blk_eq h3 g2
 obtain ⟨rfl, e2⟩ := List.append_inj e1 (h1.trans g1.symm)
 obtain ⟨rfl, rfl⟩ := List.append_inj e2 (h5.five.trans g4.five.symm)
 refine ⟨⟨pre, cs, ds', post, T, h1, h2, g3, h4, g5⟩, h.out, k.out', h.nd, k.nd', fun x hx => ?_, h.chg.trans k.chg (fun x hx => ?_)⟩
 ·rcases k.sub x hx with y | y
  ·exact h.sub x y
  ·exact .inr (Nat.le_trans h.chg.size y)
 ·rcases hx with rfl | hx
  ·exact .inl (.inl rfl)
  ·rcases h.sub x hx with y | y
   ·exact .inl (.inr y)
   ·exact .inr y
theorem PtN.lt {w : World} {B b o : Nat} {n : Nd} {F : List Nat} (h : PtN w B b o n F) : b < w.heap.size ∧ ∀ k ∈ F, B ≤ k ∧ k < w.heap.size := by
 obtain ⟨pre, cs, post, T, h1, h2, h3, h4, h5⟩ := h
 exact ⟨h2.lt, TrN.lt n cs F h3⟩
theorem PtN.keep {C : Nat → Prop} {w w' : World} {B b o : Nat} {n : Nd} {F : List Nat} (h : PtN w B b o n F) (hc : Chg C w w') (hb : ¬ C b) (hF : ∀ k ∈ F, ¬ C k) : PtN w' B b o n F := by
 have hl := h.lt
 obtain ⟨pre, cs, post, T, h1, h2, h3, h4, h5⟩ := h
 exact ⟨pre, cs, post, T, h1, h2.keep hc hb, TrN.keep n cs F h3 (fun k hk => hc.block k (hl.2 k hk).2 (hF k hk)), h4, h5⟩
theorem PtN.keep0 {w w' : World} {B b o : Nat} {n : Nd} {F : List Nat} (h : PtN w B b o n F) (hc : Chg NoB w w') : PtN w' B b o n F := h.keep hc nbE (fun _ _ => nbE)
theorem Upd.later {C : Nat → Prop} {w w1 w2 : World} {B b o : Nat} {n n1 : Nd} {F F1 : List Nat} (h : Upd w B b o n F w1 n1 F1) (hc : Chg C w1 w2) (hb : ¬ C b) (hF : ∀ k ∈ F1, ¬ C k) (hD : ∀ k, C k → k ∈ F ∨ w.heap.size ≤ k) : Upd w B b o n F w2 n1 F1 := by
 have hl := h.pt'.lt
 obtain ⟨pre, cs, cs', post, T, h1, h2, h3, h4, h5⟩ := h.cells
 refine ⟨⟨pre, cs, cs', post, T, h1, h2, h3.keep hc hb, h4, TrN.keep n1 cs' F1 h5 (fun k hk => hc.block k (hl.2 k hk).2 (hF k hk))⟩, h.out, h.out', h.nd, h.nd', h.sub, h.chg.trans hc (fun k hk => ?_)⟩
 rcases hD k hk with y | y
 ·exact .inl (.inr y)
 ·exact .inr y
theorem Upd.later0 {w w1 w2 : World} {B b o : Nat} {n n1 : Nd} {F F1 : List Nat} (h : Upd w B b o n F w1 n1 F1) (hc : Chg NoB w1 w2) : Upd w B b o n F w2 n1 F1 := h.later hc nbE (fun _ _ => nbE) (fun _ hk => nbE hk)
theorem Upd.ahead {C : Nat → Prop} {w0 w w1 : World} {B b o : Nat} {n n1 : Nd} {F F1 : List Nat} (hc : Chg C w0 w) (h0 : PtN w0 B b o n F) (hb : ¬ C b) (hF : ∀ k ∈ F, ¬ C k) (hD : ∀ k, C k → w0.heap.size ≤ k) (h : Upd w B b o n F w1 n1 F1) : Upd w0 B b o n F w1 n1 F1 := by
 have hl := h0.lt
 obtain ⟨pre0, cs0, post0, T0, a1, a2, a3, a4, a5⟩ := h0
 obtain ⟨pre, cs, cs', post, T, h1, h2, h3, h4, h5⟩ := h.cells
 obtain ⟨e1, rfl⟩ := blk_eq (a2.keep hc hb) h2
 obtain ⟨rfl, e2⟩ := List.append_inj e1 (a1.trans h1.symm)
 obtain ⟨rfl, rfl⟩ := List.append_inj e2 (a3.five.trans h4.five.symm)
 refine ⟨⟨pre0, cs0, cs', post0, T0, a1, a2, h3, a3, h5⟩, h.out, h.out', h.nd, h.nd', fun k hk => ?_, (hc.mono (D := fun k => k = b ∨ k ∈ F) (fun x hx e => by have := hD x e; omega)).trans h.chg (fun x hx => .inl hx)⟩
 rcases h.sub k hk with y | y
 ·exact .inl y
 ·exact .inr (Nat.le_trans hc.size y)
theorem PtN.form {w : World} {B b o : Nat} {i : Int} {nm : ByteArray} {r k : Int} {s : List Nd} {F : List Nat} (h : PtN w B b o (.mk i nm r k s) F) :
  ∃ v, TrL w B s v F ∧ w.cell? ⟨b, o, none⟩ = some (.int .i64 i) ∧ w.cell? ⟨b, o + 1, none⟩ = some (.string nm) ∧ w.cell? ⟨b, o + 2, none⟩ = some (.int .i64 r) ∧ w.cell? ⟨b, o + 3, none⟩ = some (.int .i64 k) ∧ w.cell? ⟨b, o + 4, none⟩ = some v ∧
   (∀ j, w.frozen? ⟨b, j, none⟩ = false) := by
 obtain ⟨pre, cs, post, T, rfl, h2, h3, _⟩ := h
 obtain ⟨v, rfl, h4⟩ := trN.1 h3
 have hc : ∀ j x, (ndCells i nm r k v)[j]? = some x → w.cell? ⟨b, pre.length + j, none⟩ = some x := fun j x hj => by
  rw [h2.cell, List.getElem?_append_right (Nat.le_add_right _ _), Nat.add_sub_cancel_left, List.getElem?_append_left (List.getElem?_eq_some_iff.1 hj).1]
  exact hj
 exact ⟨v, h4, hc 0 _ rfl, hc 1 _ rfl, hc 2 _ rfl, hc 3 _ rfl, hc 4 _ rfl, fun j => h2.free j⟩
theorem set_mid {pre cs post : List Value} {j : Nat} (hj : j < cs.length) (v : Value) : (pre ++ (cs ++ post)).set (pre.length + j) v = pre ++ (cs.set j v ++ post) := by
 rw [List.set_append_right _ _ (Nat.le_add_right _ _), Nat.add_sub_cancel_left, List.set_append_left _ _ hj]
theorem PtN.field {w : World} {B b o : Nat} {i : Int} {nm : ByteArray} {r k : Int} {s : List Nd} {F : List Nat} (h : PtN w B b o (.mk i nm r k s) F) (j : Nat) (hj : j < 5) (u : Value) (i' : Int) (nm' : ByteArray) (r' k' : Int)
  (he : ∀ v, (ndCells i nm r k v).set j u = ndCells i' nm' r' k' v) : Upd w B b o (.mk i nm r k s) F (w.setCell ⟨b, o + j, none⟩ u) (.mk i' nm' r' k' s) F := by
 have hl := h.lt
 obtain ⟨pre, cs, post, T, rfl, h2, h3, h4, h5⟩ := h
 obtain ⟨v, rfl, h6⟩ := trN.1 h3
 have hs := h2.set (pre.length + j) u
 rw [set_mid (show j < (ndCells i nm r k v).length from hj), he v] at hs
 have hc : Chg (fun x => x = b ∨ x ∈ F) w (w.setCell ⟨b, pre.length + j, none⟩ u) := (Chg.refl _ w).setCell (p := ⟨b, pre.length + j, none⟩) (.inl (.inl rfl)) u
 refine ⟨⟨pre, _, _, post, T, rfl, h2, hs, h3, trN.2 ⟨v, rfl, h6.keep fun x hx => ?_⟩⟩, h4, h4, h5, h5, fun x hx => .inl hx, hc⟩
 exact Below.heap_setCell w ⟨b, pre.length + j, none⟩ u x (fun e => h4 (by have e : x = b := e; exact e ▸ hx))
theorem PtN.list {w w1 : World} {B b o : Nat} {i : Int} {nm : ByteArray} {r k : Int} {s s' : List Nd} {F F' : List Nat} {v' : Value} (h : PtN w B b o (.mk i nm r k s) F) (hc : Chg (fun x => x ∈ F) w w1) (ht : TrL w1 B s' v' F') (hb : b ∉ F') (hn : F'.Nodup) (hs : ∀ x ∈ F', x ∈ F ∨ w.heap.size ≤ x) :
  Upd w B b o (.mk i nm r k s) F (w1.setCell ⟨b, o + 4, none⟩ v') (.mk i nm r k s') F' := by
 have hl := h.lt
 obtain ⟨pre, cs, post, T, rfl, h2, h3, h4, h5⟩ := h
 obtain ⟨v, rfl, h6⟩ := trN.1 h3
 have hS := (h2.keep hc h4).set (pre.length + 4) v'
 rw [set_mid (show 4 < (ndCells i nm r k v).length from Nat.lt_succ_self 4)] at hS
 refine ⟨⟨pre, _, _, post, T, rfl, h2, hS, h3, trN.2 ⟨v', rfl, ht.keep fun x hx => ?_⟩⟩, h4, hb, h5, hn, hs, ?_⟩
 ·exact Below.heap_setCell w1 ⟨b, pre.length + 4, none⟩ v' x (fun e => hb (by have e : x = b := e; exact e ▸ hx))
 ·exact ((hc.mono (fun x _ e => .inr e)).setCell (p := ⟨b, pre.length + 4, none⟩) (.inl (.inl rfl)) v')
theorem list_split {α : Type} {s : List α} {j : Nat} {c : α} (h : s[j]? = some c) : ∃ l1 l2, s = l1 ++ c :: l2 ∧ l1.length = j ∧ ∀ c', s.set j c' = l1 ++ c' :: l2 := by
 obtain ⟨hj, rfl⟩ := List.getElem?_eq_some_iff.1 h
 refine ⟨s.take j, s.drop (j + 1), ?_, by rw [List.length_take]; omega, fun c' => ?_⟩
 ·rw [← List.drop_eq_getElem_cons hj, List.take_append_drop]
 ·exact List.set_eq_take_append_cons_drop.trans (by rw [if_pos hj])
theorem PtN.child {w : World} {B b o : Nat} {i : Int} {nm : ByteArray} {r k : Int} {s : List Nd} {F : List Nat} (h : PtN w B b o (.mk i nm r k s) F) {j : Nat} {c : Nd} (hj : s[j]? = some c) :
  ∃ rb cap Fc, w.cell? ⟨b, o + 4, none⟩ = some (.slice (some ⟨rb, 0, none⟩) s.length cap) ∧ s.length ≤ cap ∧ cap ≤ maxLen ∧ rb ∈ F ∧ (∀ x ∈ Fc, x ∈ F) ∧ PtN w B rb (j * 5) c Fc ∧
   ∀ w' c' Fc', Upd w B rb (j * 5) c Fc w' c' Fc' → ∃ F', Upd w B b o (.mk i nm r k s) F w' (.mk i nm r k (s.set j c')) F' := by
 have hl := h.lt
 obtain ⟨v0, _, _, _, _, _, c4, _⟩ := h.form
 obtain ⟨pre, cs, post, T, rfl, h2, h3, h4, h5⟩ := h
 obtain ⟨v, rfl, h6⟩ := trN.1 h3
 have hv : w.cell? ⟨b, pre.length + 4, none⟩ = some v := by
  rw [h2.cell, List.getElem?_append_right (Nat.le_add_right _ _), Nat.add_sub_cancel_left]
  rfl
 obtain ⟨l1, l2, rfl, rfl, hset⟩ := list_split hj
 rcases h6 with ⟨h0, _⟩ | ⟨rb, cap, cur, F', rfl, e2, e3, e4, e5, e6, e7, rfl⟩
 ·simp at h0
 obtain ⟨x1, x2, F1, F2, rfl, g1, g2, g3, rfl⟩ := trC_split.1 e7
 obtain ⟨cc, y2, Fc, F3, rfl, k1, k2, rfl⟩ := trC_cons.1 g3
 rw [List.nodup_cons, List.nodup_append, List.nodup_append] at h5
 obtain ⟨n1, n2, ⟨n3, n4, n5⟩, n6⟩ := h5
 simp only [List.mem_append, not_or] at n1
 simp only [List.mem_cons, List.mem_append, not_or] at h4
 refine ⟨rb, cap, Fc, hv, e2, e3, List.mem_cons_self .., fun x hx => List.mem_cons_of_mem _ (List.mem_append_right _ (List.mem_append_left _ hx)), ⟨x1, cc, y2, _, g1, e5, k1, n1.2.1, n3⟩, fun w' c' Fc' hu => ?_⟩
 obtain ⟨p1, q1, q1', r1, T1, m1, m2, m3, m4, m5⟩ := hu.cells
 obtain ⟨d1, rfl⟩ := blk_eq e5 m2
 obtain ⟨rfl, d2⟩ := List.append_inj d1 (g1.trans m1.symm)
 obtain ⟨rfl, rfl⟩ := List.append_inj d2 (k1.five.trans m4.five.symm)
 have hwz := hu.chg.size
 -- what is in none of the child's blocks is as it was
 have hold : ∀ x, x < w.heap.size → x ≠ rb → x ∉ Fc → w'.heap[x]? = w.heap[x]? := fun x hx h1 h2 => hu.chg.block x hx (fun e => by rcases e with e | e; exact h1 e; exact h2 e)
 have hin : ∀ x ∈ rb :: (F1 ++ (Fc ++ F3)), B ≤ x ∧ x < w.heap.size := hl.2
 simp only [List.mem_cons, List.mem_append] at hin
 have g2' := TrC.keep l1 x1 F1 g2 (fun x hx => hold x (hin x (.inr (.inl hx))).2 (fun e => n1.1 (e ▸ hx)) (fun e => n6 x hx x (List.mem_append_left _ e) rfl))
 have k2' := TrC.keep l2 y2 F3 k2 (fun x hx => hold x (hin x (.inr (.inr (.inr hx)))).2 (fun e => n1.2.2 (e ▸ hx)) (fun e => n5 x e x hx rfl))
 have hnew := trC_split.2 ⟨x1, q1' ++ y2, F1, Fc' ++ F3, rfl, g1, g2', trC_cons.2 ⟨q1', y2, Fc', F3, rfl, m5, k2', rfl⟩, rfl⟩
 have hsubF : ∀ x ∈ Fc', x ∈ Fc ∨ w.heap.size ≤ x := hu.sub
 refine ⟨rb :: (F1 ++ (Fc' ++ F3)), ⟨⟨pre, _, _, post, T, rfl, h2, h2.keep hu.chg (fun e => ?_), h3, trN.2 ⟨_, rfl, .inr ⟨rb, cap, _, _, ?_, ?_, e3, e4, m3, ?_, by rw [hset]; exact hnew, rfl⟩⟩⟩, ?_, ?_, ?_, ?_, ?_, ?_⟩⟩
 ·rcases e with e | e
  ·exact h4.1 e
  ·exact h4.2.2.1 e
 ·rw [hset]; simp
 ·rw [hset]; simpa using e2
 ·rw [← e6]; simp only [List.length_append, m5.five, m4.five]
 ·simp only [List.mem_cons, List.mem_append, not_or]; exact ⟨h4.1, h4.2.1, h4.2.2.1, h4.2.2.2⟩
 ·simp only [List.mem_cons, List.mem_append, not_or]
  refine ⟨h4.1, h4.2.1, fun e => ?_, h4.2.2.2⟩
  rcases hsubF b e with y | y
  ·exact h4.2.2.1 y
  ·have := h2.lt; omega
 ·rw [List.nodup_cons, List.nodup_append, List.nodup_append]
  exact ⟨by simp only [List.mem_append, not_or]; exact n1, n2, ⟨n3, n4, n5⟩, n6⟩
 ·rw [List.nodup_cons, List.nodup_append, List.nodup_append]
  refine ⟨?_, n2, ⟨hu.nd', n4, fun x hx y hy e => ?_⟩, fun x hx y hy e => ?_⟩
  ·simp only [List.mem_append, not_or]
   exact ⟨n1.1, hu.out', n1.2.2⟩
  ·subst e
   rcases hsubF x hx with z | z
   ·exact n5 x z x hy rfl
   ·have := (hin x (.inr (.inr (.inr hy)))).2; omega
  ·subst e
   rcases List.mem_append.1 hy with hy | hy
   ·rcases hsubF x hy with z | z
    ·exact n6 x hx x (List.mem_append_left _ z) rfl
    ·have := (hin x (.inr (.inl hx))).2; omega
   ·exact n6 x hx x (List.mem_append_right _ hy) rfl
 ·simp only [List.mem_cons, List.mem_append]
  rintro x (hx | hx | hx | hx)
  ·exact .inl (.inl hx)
  ·exact .inl (.inr (.inl hx))
  ·rcases hsubF x hx with z | z
   ·exact .inl (.inr (.inr (.inl z)))
   ·exact .inr z
  ·exact .inl (.inr (.inr (.inr hx)))
 ·refine hu.chg.mono (fun x _ e => .inr ?_)
  simp only [List.mem_cons, List.mem_append]
  rcases e with e | e
  ·exact .inl e
  ·exact .inr (.inr (.inl e))
end Go.Proofs.YtgcmfpcgmkkobaaGreatDoor
