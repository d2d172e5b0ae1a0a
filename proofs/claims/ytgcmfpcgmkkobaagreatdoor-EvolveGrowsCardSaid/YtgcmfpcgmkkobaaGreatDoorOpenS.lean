/-
  shredcollaw2.leaf: the law's closed fact.; A slice of strings as it is handed in.
-/
import Derived.Test.YtgcmfpcgmkkobaaGreatDoorTwiceP
import Derived.Test.YtgcmfpcgmkkobaaGreatDoorWalk
import Derived.Test.YtgcmfpcgmkkobaaGreatDoorTreeMore
import Derived.Test.YtgcmfpcgmkkobaaGreatDoorNumbered
set_option linter.unusedVariables false
set_option linter.unusedSimpArgs false
namespace Go.Proofs.YtgcmfpcgmkkobaaGreatDoor
open Go.RowKit
theorem rep_len : ∀ p : Fin 4, (repS (p.val : Int)).length ≤ 8 := by decide +kernel
theorem kind_len : ∀ p : Fin 6, (kindS (p.val : Int)).length ≤ 6 := by decide +kernel
theorem head_len {n : Nd} (h : Right n) (ind : List UInt8) : (headS n.id n.name n.rep n.kind ind).length ≤ ind.length + 36 := by
 obtain ⟨b1, b2, b3, b4, b5, b6, b7, b8, b9⟩ := h
 obtain ⟨rn, hrn⟩ := Int.eq_ofNat_of_zero_le (show 0 ≤ n.rep by omega)
 obtain ⟨kn, hkn⟩ := Int.eq_ofNat_of_zero_le b3
 have h1 := rep_len ⟨rn, by omega⟩
 have h2 := kind_len ⟨kn, by omega⟩
 have h3 := (num_all b8 b9).2.2
 have h4 : n.name.size ≤ 12 := by
  unfold isNameB at b7
  rw [Bool.and_eq_true, Bool.and_eq_true] at b7
  exact of_decide_eq_true b7.1.2
 simp only at h1 h2
 unfold headS
 rw [hrn, hkn]
 simp only [List.length_append, List.length_cons, List.length_nil, length_data]
 omega
mutual
theorem text_len : ∀ (n : Nd) (ind : List UInt8) (M : Nat), n.All Right → ind.length + 2 * n.high ≤ M → (textN n ind).length ≤ n.weigh * (2 * M + 60)
 | .mk i nm r k s, ind, M, hA, hM => by
  have h1 := head_len hA.1 ind
  simp only [Nd.id, Nd.name, Nd.rep, Nd.kind] at h1
  simp only [Nd.high] at hM
  have h2 := texts_len s (ind ++ [32, 32]) M hA.2 (by simp only [List.length_append, List.length_cons, List.length_nil]; omega)
  simp only [textN, Nd.weigh, Nat.add_mul, Nat.one_mul]
  rw [List.length_append]
  split
  ·simp only [List.length_append, List.length_cons, List.length_nil]
   omega
  ·simp only [List.length_cons, List.length_nil]
   omega
theorem texts_len : ∀ (l : List Nd) (ind : List UInt8) (M : Nat), Nd.Alls Right l → ind.length + 2 * Nd.highs l ≤ M → (textL l ind).length ≤ Nd.weighs l * (2 * M + 60)
 | [], ind, M, hA, hM => by simp [textL]
 | n :: ns, ind, M, hA, hM => by
  simp only [Nd.highs] at hM
  have h1 := text_len n ind M hA.1 (by omega)
  have h2 := texts_len ns ind M hA.2 (by omega)
  simp only [textL, Nd.weighs, List.length_append, Nat.add_mul]
  omega
end
mutual
theorem fine_of : ∀ (n : Nd), n.All Right → n.fine
 | .mk i nm r k s, h => ⟨h.1.1, h.1.2.1, h.1.2.2.1, h.1.2.2.2.1, fines_of s h.2⟩
theorem fines_of : ∀ (l : List Nd), Nd.Alls Right l → Nd.fines l
 | [], h => trivial
 | n :: ns, h => ⟨fine_of n h.1, fines_of ns h.2⟩
end
theorem good_of {nd : Nd} (hv : validF nd = none) : Nd.fines nd.sub ∧ (textL nd.sub []).length ≤ 140737488355328 := by
 have hS := schema_of_valid hv
 have h1 := hS.high
 have h2 := hS.small
 refine ⟨fines_of _ hS.right, ?_⟩
 have h3 := texts_len nd.sub [] 12 hS.right (by
  obtain ⟨i, nm, r, k, s⟩ := nd
  simp only [Nd.high, Nd.sub] at h1 ⊢
  simp only [List.length_nil]
  omega)
 have h4 : Nd.weighs nd.sub ≤ 40 := by
  obtain ⟨i, nm, r, k, s⟩ := nd
  simp only [Nd.weigh, Nd.sub] at h2 ⊢
  omega
 have h5 : Nd.weighs nd.sub * (2 * 12 + 60) ≤ 40 * (2 * 12 + 60) := Nat.mul_le_mul_right _ h4
 omega
theorem Glo.up {B B' : Nat} {E : Er → Value} {w : World} (h : Glo B E w) (hB : B ≤ B') : Glo B' E w :=
 ⟨h.errs, h.tabs.up hB, h.syn, h.ran, ⟨fun e => by have := h.below.1 e; omega, by have := h.below.2.1; omega, by have := h.below.2.2; omega⟩⟩
open Go.ChangeShapes Go.WideShapes Go.ChangeAt Go.RowKit
theorem stringBytes : Tryz.prog.bytesOf 9 = 16 := by kernel_rfl
theorem open_strs {H : Type} {enc : TypeId × Value → H} {W : World} {n : Nat} {v : Value} {x : DataW H × List MemPlace} (h : DataW.trod enc Tryz.prog W 0 (fun _ => true) true n 22 v.cells.toList = some x)
  (hw : (x.1.weights Tryz.prog 22).all (· ≤ reachBytes) = true) :
  ∃ l : List ByteArray, Reads W (fun b => b < W.heap.size) (.list 1 (l.map strDt)) v.cells.toList ∧ (∀ s ∈ l, s.size ≤ reach) ∧ l.length * 16 ≤ reach := by
 rcases DataW.trod_slice Tryz.underlying22 h with ⟨e4, rfl⟩ | ⟨a, len, cap, elems, rest, n2, rfl, e4, rfl, hb, hlc, hm, hlen, hel, hsp, _⟩
 ·rw [e4]
  exact ⟨[], ⟨none, 0, rfl, Nat.le_refl _, Nat.zero_le _, .inl ⟨rfl, fun _ => rfl⟩⟩, fun s hs => (List.not_mem_nil hs).elim, Nat.zero_le _⟩
 ·rw [e4]
  dsimp only at hw
  simp only [DataW.weights, Tryz.underlying22, stringBytes, List.length_map, List.all_cons, List.all_append, Bool.and_eq_true, decide_eq_true_eq] at hw
  obtain ⟨hwl, hwe, hwr⟩ := hw
  have hall : ∀ j, j < len → ∃ s : ByteArray, ∃ cs', cs'.length = 1 ∧ (∀ t c, cs'[t]? = some c → W.cell? ((a.add (j * 1)).add t) = some c) ∧ cs' = [.string s] ∧ s.size ≤ reach := by
   intro j hj
   have h1 := hel j hj
   rw [stringCells] at h1
   rw [List.getElem?_eq_getElem (by omega), Option.bind_eq_some_iff] at h1
   obtain ⟨cs', h2, h3⟩ := h1
   obtain ⟨h4, h5⟩ := cells_of h2
   obtain ⟨s, e0, e1, _⟩ := DataW.trod_string Tryz.underlying9 h3
   have h6 := weights_mem (List.mem_map_of_mem (f := Prod.fst) (List.getElem_mem (show j < elems.length by omega))) hwe
   rw [e1] at h6
   simp only [DataW.weights, List.all_cons, List.all_nil, Bool.and_true, decide_eq_true_eq] at h6
   rw [length_data'] at h6
   exact ⟨s, cs', h4, h5, e0, h6⟩
  obtain ⟨l, hll, hl2⟩ := choose_list len hall
  refine ⟨l, ⟨some a, cap, by rw [List.length_map, hll], by rw [List.length_map, hll]; exact hlc, hm, ?_⟩, ?_, ?_⟩
  ·by_cases h0 : len = 0
   ·have : l = [] := List.eq_nil_of_length_eq_zero (by omega)
    subst this
    exact .inl ⟨rfl, fun e => by cases e⟩
   ·obtain ⟨z0, cs0, hc1, hc2, _⟩ := hall 0 (by omega)
    have hcell := hc2 0 (cs0[0]) (List.getElem?_eq_getElem (by omega))
    obtain ⟨b, off, spot⟩ := a
    have hspot : spot = none := by simpa [Addr.add] using World.cell?_spot hcell
    subst hspot
    refine .inr ⟨b, off, rfl, ?_, ?_, ?_⟩
    ·have := lt_of_cell' hcell; simpa [Addr.add] using this
    ·have := lt_of_cell' hcell; simpa [Addr.add] using this
    ·refine readsE_of _ _ fun j d hd => ?_
     rw [List.getElem?_map] at hd
     obtain ⟨z, h1, rfl⟩ := Option.map_eq_some_iff.1 hd
     obtain ⟨cs', h4, h5, h6, _⟩ := hl2 j z h1
     subst h6
     refine ⟨_, h4, fun t c ht => ?_, rfl, rfl⟩
     have := h5 t c ht
     rwa [add_none, add_none] at this
  ·intro s hs
   obtain ⟨j, hj⟩ := List.getElem?_of_mem hs
   obtain ⟨_, _, _, _, h⟩ := hl2 j s hj
   exact h
  ·have : len ≤ elems.length + rest.length := by omega
   have := Nat.mul_le_mul_right 16 this
   unfold reach
   unfold reachBytes at hwl
   omega
end Go.Proofs.YtgcmfpcgmkkobaaGreatDoor
