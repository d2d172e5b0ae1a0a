/-
 shredcollaw2.leaf: the law's closed fact.
-/
import Derived.Test.YtgcmfpcgmkkobaaGreatDoorPackF
import Derived.Test.YtgcmfpcgmkkobaaGreatDoorPackA
set_option linter.unusedVariables false
set_option linter.unusedSimpArgs false
namespace Go.Proofs.YtgcmfpcgmkkobaaGreatDoor
open Go.RowKit

theorem rep_len : ∀ p : Fin 4, (repS (p.val : Int)).length ≤ 8 := by decide +kernel
theorem kind_len : ∀ p : Fin 6, (kindS (p.val : Int)).length ≤ 6 := by decide +kernel
theorem head_len {n : Nd} (h : Right n) (ind : List UInt8) : (headS n.id n.name n.rep n.kind ind).length ≤ ind.length + 36 := by
 obtain ⟨b1, b2, b3, b4, b5, b6, b7, b8, b9⟩ := h
 obtain ⟨rn, hrn⟩ := Int.eq_ofNat_of_zero_le (show 0 ≤ n.rep by omega)
 obtain ⟨kn, hkn⟩ := Int.eq_ofNat_of_zero_le b3
 have h1 := rep_len ⟨rn, by omega⟩
 have h2 := kind_len ⟨kn, by omega⟩
 have h3 := (num_all b8 b9).2.2
 have h4 : n.name.size ≤ 12 := by
  unfold isNameB at b7
  rw [Bool.and_eq_true, Bool.and_eq_true] at b7
  exact of_decide_eq_true b7.1.2
 simp only at h1 h2
 unfold headS
 rw [hrn, hkn]
 simp only [List.length_append, List.length_cons, List.length_nil, length_data]
 omega
mutual
theorem text_len : ∀ (n : Nd) (ind : List UInt8) (M : Nat), n.All Right → ind.length + 2 * n.high ≤ M → (textN n ind).length ≤ n.weigh * (2 * M + 60)
 | .mk i nm r k s, ind, M, hA, hM => by
  have h1 := head_len hA.1 ind
  simp only [Nd.id, Nd.name, Nd.rep, Nd.kind] at h1
  simp only [Nd.high] at hM
  have h2 := texts_len s (ind ++ [32, 32]) M hA.2 (by simp only [List.length_append, List.length_cons, List.length_nil]; omega)
  simp only [textN, Nd.weigh, Nat.add_mul, Nat.one_mul]
  rw [List.length_append]
  split
  ·simp only [List.length_append, List.length_cons, List.length_nil]
   omega
  ·simp only [List.length_cons, List.length_nil]
   omega
theorem texts_len : ∀ (l : List Nd) (ind : List UInt8) (M : Nat), Nd.Alls Right l → ind.length + 2 * Nd.highs l ≤ M → (textL l ind).length ≤ Nd.weighs l * (2 * M + 60)
 | [], ind, M, hA, hM => by simp [textL]
 | n :: ns, ind, M, hA, hM => by
  simp only [Nd.highs] at hM
  have h1 := text_len n ind M hA.1 (by omega)
  have h2 := texts_len ns ind M hA.2 (by omega)
  simp only [textL, Nd.weighs, List.length_append, Nat.add_mul]
  omega
end
mutual
theorem fine_of : ∀ (n : Nd), n.All Right → n.fine
 | .mk i nm r k s, h => ⟨h.1.1, h.1.2.1, h.1.2.2.1, h.1.2.2.2.1, fines_of s h.2⟩
theorem fines_of : ∀ (l : List Nd), Nd.Alls Right l → Nd.fines l
 | [], h => trivial
 | n :: ns, h => ⟨fine_of n h.1, fines_of ns h.2⟩
end
theorem good_of {nd : Nd} (hv : validF nd = none) : Nd.fines nd.sub ∧ (textL nd.sub []).length ≤ 140737488355328 := by
 have hS := schema_of_valid hv
 have h1 := hS.high
 have h2 := hS.small
 refine ⟨fines_of _ hS.right, ?_⟩
 have h3 := texts_len nd.sub [] 12 hS.right (by
  obtain ⟨i, nm, r, k, s⟩ := nd
  simp only [Nd.high, Nd.sub] at h1 ⊢
  simp only [List.length_nil]
  omega)
 have h4 : Nd.weighs nd.sub ≤ 40 := by
  obtain ⟨i, nm, r, k, s⟩ := nd
  simp only [Nd.weigh, Nd.sub] at h2 ⊢
  omega
 have h5 : Nd.weighs nd.sub * (2 * 12 + 60) ≤ 40 * (2 * 12 + 60) := Nat.mul_le_mul_right _ h4
 omega

def leafText : ByteArray := ⟨#[114, 101, 113, 117, 105, 114, 101, 100, 32, 105, 110, 116, 32, 97, 32, 35, 49, 59]⟩
def leafNd : Nd := .mk 0 rootName 1 0 [.mk 1 ⟨#[97]⟩ 1 2 []]
theorem leaf_valid : validF leafNd = none := by kernel_rfl
theorem leaf_read : readF leafText = .ok leafNd := by
 have h1 : headN 2 (skipW leafText.data.toList) = .leaf (.mk 1 ⟨#[97]⟩ 1 2 []) [] := by kernel_rfl
 have hp : parseL 2 (skipW leafText.data.toList) = .ok [.mk 1 ⟨#[97]⟩ 1 2 []] [] := by
  rw [parse_leaf h1, parse_stop (show headN 2 [] = .stop from if_pos (.inr ⟨rfl, by decide⟩))]
  rfl
 unfold readF
 rw [if_neg (by decide), hp]
 simp only [show tok [] = [] from rfl, if_true]
 rw [show validF (.mk 0 rootName 1 0 [.mk 1 ⟨#[97]⟩ 1 2 []]) = none from leaf_valid]
 rfl
theorem leaf_text : textF leafNd = [114, 101, 113, 117, 105, 114, 101, 100, 32, 105, 110, 116, 32, 97, 32, 35, 49, 59, 10] := by
 unfold textF
 rw [if_pos leaf_valid]
 have h1 : Lib.itoa 1 = [49] := by
  unfold Lib.itoa
  rw [if_neg (by decide), dec_four _ (by decide)]
  rfl
 simp only [leafNd, Nd.sub, textL, textN, headS, h1]
 rfl
theorem leafNd_ok : leafNd.ok := by
 refine ⟨⟨by decide, by decide⟩, by decide, ⟨by decide, by decide⟩, ⟨by decide, by decide⟩, by decide, ⟨⟨by decide, by decide⟩, by decide, ⟨by decide, by decide⟩, ⟨by decide, by decide⟩, by decide, trivial⟩, trivial⟩

theorem Glo.up {B B' : Nat} {E : Er → Value} {w : World} (h : Glo B E w) (hB : B ≤ B') : Glo B' E w :=
 ⟨h.errs, h.tabs.up hB, h.syn, h.ran, ⟨fun e => by have := h.below.1 e; omega, by have := h.below.2.1; omega, by have := h.below.2.2; omega⟩⟩

end Go.Proofs.YtgcmfpcgmkkobaaGreatDoor
