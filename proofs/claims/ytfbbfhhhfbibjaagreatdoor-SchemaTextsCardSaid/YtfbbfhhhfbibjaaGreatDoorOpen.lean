/-
  A node that is handed in, opened: its reading as plain data.
-/
import Derived.Test.YtfbbfhhhfbibjaaGreatDoorProg
import Derived.Test.YtfbbfhhhfbibjaaGreatDoorNode
import Derived.OpenShut
import Derived.ProofKit
namespace Go.Proofs.YtfbbfhhhfbibjaaGreatDoor
open Go.RowKit

theorem readsE_of {w : World} {S : Nat → Prop} {k b : Nat} : ∀ (l : List Dt) (off : Nat),
    (∀ (i : Nat) (d : Dt), l[i]? = some d → ∃ cs, cs.length = k ∧ (∀ (j : Nat) (c : Value), cs[j]? = some c → w.cell? ⟨b, off + i * k + j, none⟩ = some c) ∧ Reads w S d cs) → ReadsE w S k b off l
  | [], off, h => trivial
  | d :: ds, off, h => by
    refine ⟨?_, readsE_of ds (off + k) fun i d' hd => ?_⟩
    · obtain ⟨cs, h1, h2, h3⟩ := h 0 d rfl
      exact ⟨cs, h1, fun j c hj => by simpa using h2 j c hj, h3⟩
    · obtain ⟨cs, h1, h2, h3⟩ := h (i + 1) d' (by simpa using hd)
      refine ⟨cs, h1, fun j c hj => ?_, h3⟩
      rw [← h2 j c hj]
      congr 2
      rw [Nat.succ_mul]; omega
theorem choose_list {α : Type} {P : Nat → α → Prop} : ∀ n : Nat, (∀ i, i < n → ∃ y, P i y) → ∃ l : List α, l.length = n ∧ ∀ i y, l[i]? = some y → P i y
  | 0, _ => ⟨[], rfl, fun i y h => by simp at h⟩
  | n + 1, h => by
    obtain ⟨l, h1, h2⟩ := choose_list n (fun i hi => h i (by omega))
    obtain ⟨y, hy⟩ := h n (by omega)
    refine ⟨l ++ [y], by simp [h1], fun i z hz => ?_⟩
    by_cases hi : i < n
    · rw [List.getElem?_append_left (by omega)] at hz; exact h2 i z hz
    · rw [List.getElem?_append_right (by omega), h1] at hz
      have : i = n := by
        have := (List.getElem?_eq_some_iff.1 hz).1
        simp at this; omega
      subst this
      simp at hz
      exact hz ▸ hy
theorem cells_of {w : World} {base k : Nat} {a : Addr} {cs : List Value} (h : w.cells? base a k = some cs) : cs.length = k ∧ ∀ j c, cs[j]? = some c → w.cell? (a.add j) = some c := by
  unfold World.cells? at h
  split at h
  · refine ⟨by simpa using mapM_some_length h, fun j c hj => ?_⟩
    have hl : cs.length = k := by simpa using mapM_some_length h
    have hjk : j < k := by have := (List.getElem?_eq_some_iff.1 hj).1; omega
    rw [mapM_some_get h j j (by simp [hjk]), hj]
  · cases h
theorem length_data' (s : ByteArray) : s.data.toList.length = s.size := Array.length_toList
theorem lt_of_cell' {w : World} {p : Addr} {v : Value} (h : w.cell? p = some v) : p.block < w.heap.size := by
  unfold World.cell? at h
  cases hb : w.heap[p.block]? with
  | none => rw [hb] at h; simp at h
  | some o => exact lt_of_block hb
theorem oks_of : ∀ {l : List Nd}, (∀ n ∈ l, n.ok) → Nd.oks l
  | [], _ => trivial
  | x :: _xs, h => ⟨h x (List.mem_cons_self ..), oks_of fun n hn => h n (List.mem_cons_of_mem _ hn)⟩
theorem weights_mem {H : Type} {P : Program} {e : TypeId} {d : DataW H} : ∀ {l : List (DataW H)}, d ∈ l → (DataW.weightsAll P e l).all (· ≤ reachBytes) = true → (d.weights P e).all (· ≤ reachBytes) = true
  | x :: xs, hd, h => by
    simp only [DataW.weightsAll, List.all_append, Bool.and_eq_true] at h
    rcases List.mem_cons.1 hd with rfl | hd
    · exact h.1
    · exact weights_mem hd h.2
theorem add_none (b off j : Nat) : (⟨b, off, none⟩ : Addr).add j = ⟨b, off + j, none⟩ := by unfold Addr.add; split <;> simp_all
theorem five_of {α : Type} (l : List α) (h : l.length = 5) : ∃ a b c d e, l = [a, b, c, d, e] := by
  rcases l with _ | ⟨a, _ | ⟨b, _ | ⟨c, _ | ⟨d, _ | ⟨e, _ | ⟨f, g⟩⟩⟩⟩⟩⟩ <;> simp at h
  exact ⟨a, b, c, d, e, rfl⟩
theorem nodeCells : Tryz.prog.cellsOf 24 = 5 := by kernel_rfl
theorem nodeBytes : Tryz.prog.bytesOf 24 = 64 := by kernel_rfl
theorem intCells : Tryz.prog.cellsOf 3 = 1 := by kernel_rfl
theorem stringCells : Tryz.prog.cellsOf 9 = 1 := by kernel_rfl
theorem nodesCells : Tryz.prog.cellsOf 22 = 1 := by kernel_rfl

section
variable {H : Type} {enc : TypeId × Value → H} {W : World}
theorem open_nd : ∀ (fuel : Nat) (cs : List Value) (x : DataW H × List MemPlace), DataW.trod enc Tryz.prog W 0 (fun _ => true) true fuel 24 cs = some x →
    (x.1.weights Tryz.prog 24).all (· ≤ reachBytes) = true → ∃ nd : Nd, Reads W (fun b => b < W.heap.size) nd.dt cs ∧ nd.ok := by
  intro fuel
  induction fuel using Nat.strongRecOn with
  | _ fuel ih =>
    intro cs x h hw
    obtain ⟨xs, n, rfl, rfl, hl, hxl, hf⟩ := DataW.trod_struct Tryz.underlying24 h
    rw [nodeCells] at hl
    obtain ⟨v0, v1, v2, v3, v4, rfl⟩ := five_of cs hl
    obtain ⟨y0, y1, y2, y3, y4, rfl⟩ := five_of xs hxl
    have f0 := hf 0 _ rfl
    have f1 := hf 1 _ rfl
    have f2 := hf 2 _ rfl
    have f3 := hf 3 _ rfl
    have f4 := hf 4 _ rfl
    simp only [List.getElem_toArray, List.getElem_cons_zero, List.getElem_cons_succ, intCells, stringCells, nodesCells, List.drop_zero, List.drop_succ_cons, List.take_succ_cons, List.take_zero, List.getElem?_cons_zero, List.getElem?_cons_succ] at f0 f1 f2 f3 f4
    obtain ⟨i, e0, rfl, w0⟩ := DataW.trod_int Tryz.underlying3 f0
    obtain ⟨nm, e1, rfl, w1⟩ := DataW.trod_string Tryz.underlying9 f1
    obtain ⟨r, e2, rfl, w2⟩ := DataW.trod_int Tryz.underlying3 f2
    obtain ⟨k, e3, rfl, w3⟩ := DataW.trod_int Tryz.underlying3 f3
    simp only [List.cons.injEq, and_true] at e0 e1 e2 e3
    subst e0 e1 e2 e3
    have b0 := bounds_i64 w0
    have b2 := bounds_i64 w2
    have b3 := bounds_i64 w3
    dsimp only at hw
    simp only [List.map_cons, List.map_nil, DataW.weights, Tryz.underlying24, DataW.weightsEach, List.nil_append, List.append_nil, List.cons_append, List.all_cons, Bool.and_eq_true, decide_eq_true_eq] at hw
    obtain ⟨hwn, hw4⟩ := hw
    rw [length_data'] at hwn
    rcases DataW.trod_slice Tryz.underlying22 f4 with ⟨e4, rfl⟩ | ⟨a, len, cap, elems, rest, n2, rfl, e4, rfl, hb, hlc, hm, hlen, hel, hsp, _⟩
    · simp only [List.cons.injEq, and_true] at e4
      subst e4
      exact ⟨.mk i nm r k [], reads_nd.2 ⟨_, rfl, none, 0, rfl, Nat.le_refl _, Nat.zero_le _, .inl ⟨rfl, fun _ => rfl⟩⟩, ⟨by omega, by omega⟩, hwn, ⟨by omega, by omega⟩, ⟨by omega, by omega⟩, by simp [reach], trivial⟩
    · simp only [List.cons.injEq, and_true] at e4
      subst e4
      simp only [DataW.weights, Tryz.underlying22, nodeBytes, List.length_map, List.all_cons, List.all_append, Bool.and_eq_true, decide_eq_true_eq] at hw4
      obtain ⟨hwl, hwe, hwr⟩ := hw4
      have hall : ∀ j, j < len → ∃ nd : Nd, ∃ cs', cs'.length = 5 ∧ (∀ t c, cs'[t]? = some c → W.cell? ((a.add (j * 5)).add t) = some c) ∧ Reads W (fun b => b < W.heap.size) nd.dt cs' ∧ nd.ok := by
        intro j hj
        have h1 := hel j hj
        rw [nodeCells] at h1
        rw [List.getElem?_eq_getElem (by omega), Option.bind_eq_some_iff] at h1
        obtain ⟨cs', h2, h3⟩ := h1
        obtain ⟨h4, h5⟩ := cells_of h2
        obtain ⟨nd, h6, h7⟩ := ih n2 (by omega) cs' _ h3 (weights_mem (List.mem_map_of_mem (List.getElem_mem (by omega))) hwe)
        exact ⟨nd, cs', h4, h5, h6, h7⟩
      obtain ⟨l, hll, hl2⟩ := choose_list len hall
      have hoks : Nd.oks l := oks_of fun nd hnd => by
        obtain ⟨j, hj⟩ := List.getElem?_of_mem hnd
        obtain ⟨_, _, _, _, h⟩ := hl2 j nd hj
        exact h
      refine ⟨.mk i nm r k l, reads_nd.2 ⟨_, rfl, some a, cap, by rw [Nd.dts_eq, List.length_map, hll], by rw [Nd.dts_eq, List.length_map, hll]; exact hlc, hm, ?_⟩, ⟨by omega, by omega⟩, hwn, ⟨by omega, by omega⟩, ⟨by omega, by omega⟩, ?_, hoks⟩
      · by_cases h0 : len = 0
        · have : l = [] := List.eq_nil_of_length_eq_zero (by omega)
          subst this
          exact .inl ⟨rfl, fun e => by cases e⟩
        · obtain ⟨nd0, cs0, hc1, hc2, _⟩ := hall 0 (by omega)
          have hcell := hc2 0 (cs0[0]) (List.getElem?_eq_getElem (by omega))
          obtain ⟨b, off, spot⟩ := a
          have hspot : spot = none := by simpa [Addr.add] using World.cell?_spot hcell
          subst hspot
          refine .inr ⟨b, off, rfl, ?_, ?_, ?_⟩
          · have := lt_of_cell' hcell; simpa [Addr.add] using this
          · have := lt_of_cell' hcell; simpa [Addr.add] using this
          · rw [Nd.dts_eq]
            refine readsE_of _ _ fun j d hd => ?_
            rw [List.getElem?_map] at hd
            obtain ⟨nd, h1, rfl⟩ := Option.map_eq_some_iff.1 hd
            obtain ⟨cs', h2, h3, h4, _⟩ := hl2 j nd h1
            exact ⟨cs', h2, fun t c ht => by have := h3 t c ht; rwa [add_none, add_none] at this, h4⟩
      · have : len ≤ elems.length + rest.length := by omega
        have := Nat.mul_le_mul_right 64 this
        unfold reach
        unfold reachBytes at hwl
        omega
end
end Go.Proofs.YtfbbfhhhfbibjaaGreatDoor
