/-
 shredcollaw4.coded.
 A datum that is handed in, opened: its reading as plain data.
 shredcollaw4.tame.
-/
import Derived.Test.YtgcmfpcgmkkobaaGreatDoorPackH
import Derived.Test.YtgcmfpcgmkkobaaGreatDoorPackA
import Derived.Test.YtgcmfpcgmkkobaaGreatDoorPackK
set_option linter.unusedVariables false
set_option linter.unusedSimpArgs false
namespace Go.Proofs.YtgcmfpcgmkkobaaGreatDoor
open Go.RowKit

set_option maxHeartbeats 400000 in
theorem coded4_any (v : Value) (n at' c : Int) (w : World) (A : Nat → Addr) (hS : Sents w A) (ht : Told w A v n at') (hn : -2 ≤ n ∧ n ≤ 100) (hc : -2 ≤ c ∧ c ≤ 100) :
  Calls Tryz.prog 27 #[v, .int .i64 c] w (RetV (.bool (decide (n = c) && decide (at' = -1))) w) := by
 go_enter Tryz.func27, Tryz.ntmps27
 go_wp2_with fail
 refine (code_any v n at' w A hS ht).mono ?_
 rintro en w1 ⟨rfl, hc1⟩
 by_cases h1 : n = c
 ·subst h1
  by_cases h2 : at' = -1
  ·subst h2
   go_wp2_with fail
   go_ret
   exact ⟨by simp, hc1⟩
  ·have h2' : (at' == -1) = false := by simpa using h2
   have H2 := Lib.hid h2
   clear h2
   go_wp2_with fail
   go_ret
   exact ⟨by simp [H2.out], hc1⟩
 ·have h1' : (n == c) = false := by simpa using h1
  have H1 := Lib.hid h1
  clear h1
  go_wp2_with fail
  go_ret
  exact ⟨by simp [H1.out], hc1⟩
theorem coded4_yes (v : Value) (n : Int) (w : World) (A : Nat → Addr) (hS : Sents w A) (ht : Told w A v n (-1)) (hn : -2 ≤ n ∧ n ≤ 100) :
  Calls Tryz.prog 27 #[v, .int .i64 n] w (RetV (.bool true) w) := by
 have h := coded4_any v n (-1) n w A hS ht hn hn
 rwa [show (decide (n = n) && decide ((-1 : Int) = -1)) = true by simp] at h
end Go.Proofs.YtgcmfpcgmkkobaaGreatDoor
namespace Go.Proofs.YtgcmfpcgmkkobaaGreatDoor
open Go.RowKit

theorem four_of {α : Type} (l : List α) (h : l.length = 4) : ∃ a b c d, l = [a, b, c, d] := by
 rcases l with _ | ⟨a, _ | ⟨b, _ | ⟨c, _ | ⟨d, _ | ⟨e, f⟩⟩⟩⟩⟩ <;> simp at h
 exact ⟨a, b, c, d, rfl⟩
theorem three_of {α : Type} (l : List α) (h : l.length = 3) : ∃ a b c, l = [a, b, c] := by
 rcases l with _ | ⟨a, _ | ⟨b, _ | ⟨c, _ | ⟨d, f⟩⟩⟩⟩ <;> simp at h
 exact ⟨a, b, c, rfl⟩
theorem six_of {α : Type} (l : List α) (h : l.length = 6) : ∃ a b c d e f, l = [a, b, c, d, e, f] := by
 rcases l with _ | ⟨a, _ | ⟨b, _ | ⟨c, _ | ⟨d, _ | ⟨e, _ | ⟨f, _ | ⟨g, k⟩⟩⟩⟩⟩⟩⟩ <;> simp at h
 exact ⟨a, b, c, d, e, f, rfl⟩
theorem doks_of : ∀ {l : List Dm}, (∀ n ∈ l, n.ok) → Dm.oks l
 | [], _ => trivial
 | x :: xs, h => ⟨h x (List.mem_cons_self ..), doks_of fun n hn => h n (List.mem_cons_of_mem _ hn)⟩
theorem datumCellsN : Tryz.prog.cellsOf 43 = 6 := by kernel_rfl
theorem datumBytes : Tryz.prog.bytesOf 43 = 88 := by kernel_rfl
theorem valueCells : Tryz.prog.cellsOf 40 = 3 := by kernel_rfl
theorem dataCells : Tryz.prog.cellsOf 41 = 1 := by kernel_rfl
theorem boolCells : Tryz.prog.cellsOf 4 = 1 := by kernel_rfl
theorem int64Cells : Tryz.prog.cellsOf 2 = 1 := by kernel_rfl

section
variable {H : Type} {enc : TypeId × Value → H} {W : World}
theorem open_data {n : Nat} (ih : ∀ n2, n2 < n → ∀ (cs : List Value) (x : DataW H × List MemPlace), DataW.trod enc Tryz.prog W 0 (fun _ => true) true n2 43 cs = some x →
   (x.1.weights Tryz.prog 43).all (· ≤ reachBytes) = true → ∃ nd : Dm, Reads W (fun b => b < W.heap.size) nd.dt cs ∧ nd.ok)
  {v : Value} {y : DataW H × List MemPlace} (f4 : DataW.trod enc Tryz.prog W 0 (fun _ => true) true n 41 [v] = some y) (hw4 : (y.1.weights Tryz.prog 41).all (· ≤ reachBytes) = true) :
  ∃ l : List Dm, Reads W (fun b => b < W.heap.size) (.list 6 (Dm.dts l)) [v] ∧ l.length * 88 ≤ reach ∧ Dm.oks l := by
 rcases DataW.trod_slice Tryz.underlying41 f4 with ⟨e4, rfl⟩ | ⟨a, len, cap, elems, rest, n2, rfl, e4, rfl, hb, hlc, hm, hlen, hel, hsp, _⟩
 ·simp only [List.cons.injEq, and_true] at e4
  subst e4
  exact ⟨[], ⟨none, 0, rfl, Nat.le_refl _, Nat.zero_le _, .inl ⟨rfl, fun _ => rfl⟩⟩, by simp [reach], trivial⟩
 ·simp only [List.cons.injEq, and_true] at e4
  subst e4
  simp only [DataW.weights, Tryz.underlying41, datumBytes, List.length_map, List.all_cons, List.all_append, Bool.and_eq_true, decide_eq_true_eq] at hw4
  obtain ⟨hwl, hwe, hwr⟩ := hw4
  have hall : ∀ j, j < len → ∃ nd : Dm, ∃ cs', cs'.length = 6 ∧ (∀ t c, cs'[t]? = some c → W.cell? ((a.add (j * 6)).add t) = some c) ∧ Reads W (fun b => b < W.heap.size) nd.dt cs' ∧ nd.ok := by
   intro j hj
   have h1 := hel j hj
   rw [datumCellsN] at h1
   rw [List.getElem?_eq_getElem (by omega), Option.bind_eq_some_iff] at h1
   obtain ⟨cs', h2, h3⟩ := h1
   obtain ⟨h4, h5⟩ := cells_of h2
   obtain ⟨nd, h6, h7⟩ := ih n2 (by omega) cs' _ h3 (weights_mem (List.mem_map_of_mem (List.getElem_mem (by omega))) hwe)
   exact ⟨nd, cs', h4, h5, h6, h7⟩
  obtain ⟨l, hll, hl2⟩ := choose_list len hall
  have hoks : Dm.oks l := doks_of fun nd hnd => by
   obtain ⟨j, hj⟩ := List.getElem?_of_mem hnd
   obtain ⟨_, _, _, _, h⟩ := hl2 j nd hj
   exact h
  refine ⟨l, ⟨some a, cap, by rw [Dm.dts_eq, List.length_map, hll], by rw [Dm.dts_eq, List.length_map, hll]; exact hlc, hm, ?_⟩, ?_, hoks⟩
  ·by_cases h0 : len = 0
   ·have : l = [] := List.eq_nil_of_length_eq_zero (by omega)
    subst this
    exact .inl ⟨rfl, fun e => by cases e⟩
   ·obtain ⟨nd0, cs0, hc1, hc2, _⟩ := hall 0 (by omega)
    have hcell := hc2 0 (cs0[0]) (List.getElem?_eq_getElem (by omega))
    obtain ⟨b, off, spot⟩ := a
    have hspot : spot = none := by simpa [Addr.add] using World.cell?_spot hcell
    subst hspot
    refine .inr ⟨b, off, rfl, ?_, ?_, ?_⟩
    ·have := lt_of_cell' hcell; simpa [Addr.add] using this
    ·have := lt_of_cell' hcell; simpa [Addr.add] using this
    ·rw [Dm.dts_eq]
     refine readsE_of _ _ fun j d hd => ?_
     rw [List.getElem?_map] at hd
     obtain ⟨nd, h1, rfl⟩ := Option.map_eq_some_iff.1 hd
     obtain ⟨cs', h2, h3, h4, _⟩ := hl2 j nd h1
     exact ⟨cs', h2, fun t c ht => by have := h3 t c ht; rwa [add_none, add_none] at this, h4⟩
  ·have : len ≤ elems.length + rest.length := by omega
   have := Nat.mul_le_mul_right 88 this
   unfold reach
   unfold reachBytes at hwl
   omega

theorem open_dm : ∀ (fuel : Nat) (cs : List Value) (x : DataW H × List MemPlace), DataW.trod enc Tryz.prog W 0 (fun _ => true) true fuel 43 cs = some x →
  (x.1.weights Tryz.prog 43).all (· ≤ reachBytes) = true → ∃ nd : Dm, Reads W (fun b => b < W.heap.size) nd.dt cs ∧ nd.ok := by
 intro fuel
 induction fuel using Nat.strongRecOn with
 | _ fuel ih =>
  intro cs x h hw
  obtain ⟨xs, n, rfl, rfl, hl, hxl, hf⟩ := DataW.trod_struct Tryz.underlying43 h
  rw [datumCellsN] at hl
  obtain ⟨v0, v1, v2, v3, v4, v5, rfl⟩ := six_of cs hl
  obtain ⟨y0, y1, y2, y3, rfl⟩ := four_of xs hxl
  have f0 := hf 0 _ rfl
  have f1 := hf 1 _ rfl
  have f2 := hf 2 _ rfl
  have f3 := hf 3 _ rfl
  simp only [List.getElem_toArray, List.getElem_cons_zero, List.getElem_cons_succ, boolCells, valueCells, dataCells, List.drop_zero, List.drop_succ_cons, List.take_succ_cons, List.take_zero, List.getElem?_cons_zero, List.getElem?_cons_succ] at f0 f1 f2 f3
  obtain ⟨no, e0, rfl⟩ := DataW.trod_bool Tryz.underlying4 f0
  obtain ⟨zs, n', rfl, rfl, _, hzl, hz⟩ := DataW.trod_struct Tryz.underlying40 f1
  obtain ⟨z0, z1, z2, rfl⟩ := three_of zs hzl
  have g0 := hz 0 _ rfl
  have g1 := hz 1 _ rfl
  have g2 := hz 2 _ rfl
  simp only [List.getElem_toArray, List.getElem_cons_zero, List.getElem_cons_succ, intCells, int64Cells, stringCells, List.drop_zero, List.drop_succ_cons, List.take_succ_cons, List.take_zero, List.getElem?_cons_zero, List.getElem?_cons_succ] at g0 g1 g2
  obtain ⟨k, e1, rfl, w1⟩ := DataW.trod_int Tryz.underlying3 g0
  obtain ⟨m, e2, rfl, w2⟩ := DataW.trod_int Tryz.underlying2 g1
  obtain ⟨s, e3, rfl, w3⟩ := DataW.trod_string Tryz.underlying9 g2
  simp only [List.cons.injEq, and_true] at e0 e1 e2 e3
  subst e0 e1 e2 e3
  have b1 := bounds_i64 w1
  have b2 := bounds_i64 w2
  dsimp only at hw
  simp only [List.map_cons, List.map_nil, DataW.weights, Tryz.underlying43, Tryz.underlying40, List.toList_toArray, DataW.weightsEach, List.nil_append, List.append_nil, List.cons_append, List.all_cons, List.all_append, Bool.and_eq_true, decide_eq_true_eq] at hw
  obtain ⟨hwn, hwl, hwf⟩ := hw
  rw [length_data'] at hwn
  obtain ⟨l, hl1, hl2, hl3⟩ := open_data (fun n2 hn2 => ih n2 (by omega)) f2 hwl
  obtain ⟨f, hf1, hf2, hf3⟩ := open_data (fun n2 hn2 => ih n2 (by omega)) f3 hwf
  exact ⟨.mk no k m s l f, reads_dm.2 ⟨_, _, rfl, hl1, hf1⟩, ⟨by omega, by omega⟩, ⟨by omega, by omega⟩, hwn, hl2, hf2, hl3, hf3⟩
end
end Go.Proofs.YtgcmfpcgmkkobaaGreatDoor
namespace Go.Proofs.YtgcmfpcgmkkobaaGreatDoor
open Go.RowKit

def tame4B (nd : Nd) : Bool := decide ((flatOf nd).length ≤ 100)
set_option maxHeartbeats 2000000 in
theorem tame4_any (nd : Nd) (w : World) (S : Nat → Prop) (cs : List Value) (hr : Reads w S nd.dt cs) (hok : nd.ok) :
  Calls Tryz.prog 13 #[.agg cs.toArray] w (RetV (.bool (tame4B nd)) w) := by
 obtain ⟨i, n, r, k, s⟩ := nd
 obtain ⟨sv, rfl, hs⟩ := reads_nd.1 hr
 obtain ⟨sa, cap, rfl, hlen, hcap, hel⟩ := reads_subs hs
 go_enter Tryz.func13, Tryz.ntmps13
 go_wp2_with fail
 generalize hw1 : w.alloc _ = w1
 have hc1 : Chg NoB w w1 := by
  rw [← hw1]
  repeat (first | exact Chg.refl _ _ | apply Chg.alloc | apply Chg.drew)
 clear hw1
 refine (Flat_any (.mk i n r k s) w1 S _ (hr.chg0 hc1) hok).mono ?_
 rintro e w2 ⟨ao, c2, rfl, hrl, hc⟩
 have hc2 : Chg NoB w w2 := hc1.tr hc
 have ht : tame4B (.mk i n r k s) = decide (((flatOf (.mk i n r k s)).length : Int) ≤ 100) := by unfold tame4B; congr 1; exact propext ⟨fun h => by omega, fun h => by omega⟩
 have Ht := Lib.hid ht
 clear ht hc
 generalize flatOf (.mk i n r k s) = l at Ht ⊢
 go_wp2_with fail
 go_ret
 rw [Ht.out]
 exact ⟨rfl, hc2⟩
end Go.Proofs.YtgcmfpcgmkkobaaGreatDoor
