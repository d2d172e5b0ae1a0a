/-
 A slice of strings as it is handed in.
-/
import Derived.Test.YtgcmfpcgmkkobaaGreatDoorPackA
import Derived.Test.YtgcmfpcgmkkobaaGreatDoorNumbered
set_option linter.unusedVariables false
set_option linter.unusedSimpArgs false
namespace Go.Proofs.YtgcmfpcgmkkobaaGreatDoor
open Go.ChangeShapes Go.WideShapes Go.ChangeAt Go.RowKit

theorem stringBytes : Tryz.prog.bytesOf 9 = 16 := by kernel_rfl
theorem open_strs {H : Type} {enc : TypeId × Value → H} {W : World} {n : Nat} {v : Value} {x : DataW H × List MemPlace} (h : DataW.trod enc Tryz.prog W 0 (fun _ => true) true n 22 v.cells.toList = some x)
  (hw : (x.1.weights Tryz.prog 22).all (· ≤ reachBytes) = true) :
  ∃ l : List ByteArray, Reads W (fun b => b < W.heap.size) (.list 1 (l.map strDt)) v.cells.toList ∧ (∀ s ∈ l, s.size ≤ reach) ∧ l.length * 16 ≤ reach := by
 rcases DataW.trod_slice Tryz.underlying22 h with ⟨e4, rfl⟩ | ⟨a, len, cap, elems, rest, n2, rfl, e4, rfl, hb, hlc, hm, hlen, hel, hsp, _⟩
 ·rw [e4]
  exact ⟨[], ⟨none, 0, rfl, Nat.le_refl _, Nat.zero_le _, .inl ⟨rfl, fun _ => rfl⟩⟩, fun s hs => (List.not_mem_nil hs).elim, Nat.zero_le _⟩
 ·rw [e4]
  dsimp only at hw
  simp only [DataW.weights, Tryz.underlying22, stringBytes, List.length_map, List.all_cons, List.all_append, Bool.and_eq_true, decide_eq_true_eq] at hw
  obtain ⟨hwl, hwe, hwr⟩ := hw
  have hall : ∀ j, j < len → ∃ s : ByteArray, ∃ cs', cs'.length = 1 ∧ (∀ t c, cs'[t]? = some c → W.cell? ((a.add (j * 1)).add t) = some c) ∧ cs' = [.string s] ∧ s.size ≤ reach := by
   intro j hj
   have h1 := hel j hj
   rw [stringCells] at h1
   rw [List.getElem?_eq_getElem (by omega), Option.bind_eq_some_iff] at h1
   obtain ⟨cs', h2, h3⟩ := h1
   obtain ⟨h4, h5⟩ := cells_of h2
   obtain ⟨s, e0, e1, _⟩ := DataW.trod_string Tryz.underlying9 h3
   have h6 := weights_mem (List.mem_map_of_mem (f := Prod.fst) (List.getElem_mem (show j < elems.length by omega))) hwe
   rw [e1] at h6
   simp only [DataW.weights, List.all_cons, List.all_nil, Bool.and_true, decide_eq_true_eq] at h6
   rw [length_data'] at h6
   exact ⟨s, cs', h4, h5, e0, h6⟩
  obtain ⟨l, hll, hl2⟩ := choose_list len hall
  refine ⟨l, ⟨some a, cap, by rw [List.length_map, hll], by rw [List.length_map, hll]; exact hlc, hm, ?_⟩, ?_, ?_⟩
  ·by_cases h0 : len = 0
   ·have : l = [] := List.eq_nil_of_length_eq_zero (by omega)
    subst this
    exact .inl ⟨rfl, fun e => by cases e⟩
   ·obtain ⟨z0, cs0, hc1, hc2, _⟩ := hall 0 (by omega)
    have hcell := hc2 0 (cs0[0]) (List.getElem?_eq_getElem (by omega))
    obtain ⟨b, off, spot⟩ := a
    have hspot : spot = none := by simpa [Addr.add] using World.cell?_spot hcell
    subst hspot
    refine .inr ⟨b, off, rfl, ?_, ?_, ?_⟩
    ·have := lt_of_cell' hcell; simpa [Addr.add] using this
    ·have := lt_of_cell' hcell; simpa [Addr.add] using this
    ·refine readsE_of _ _ fun j d hd => ?_
     rw [List.getElem?_map] at hd
     obtain ⟨z, h1, rfl⟩ := Option.map_eq_some_iff.1 hd
     obtain ⟨cs', h4, h5, h6, _⟩ := hl2 j z h1
     subst h6
     refine ⟨_, h4, fun t c ht => ?_, rfl, rfl⟩
     have := h5 t c ht
     rwa [add_none, add_none] at this
  ·intro s hs
   obtain ⟨j, hj⟩ := List.getElem?_of_mem hs
   obtain ⟨_, _, _, _, h⟩ := hl2 j s hj
   exact h
  ·have : len ≤ elems.length + rest.length := by omega
   have := Nat.mul_le_mul_right 16 this
   unfold reach
   unfold reachBytes at hwl
   omega
end Go.Proofs.YtgcmfpcgmkkobaaGreatDoor
