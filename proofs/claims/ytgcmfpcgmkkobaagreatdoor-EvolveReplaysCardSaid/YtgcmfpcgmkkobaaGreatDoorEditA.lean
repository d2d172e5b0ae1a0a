/-
  evolve's edit: add.
-/
import Derived.Test.YtgcmfpcgmkkobaaGreatDoorEditT
set_option linter.unusedVariables false
set_option maxHeartbeats 20000000
set_option maxRecDepth 100000
set_option linter.unusedSimpArgs false
namespace Go.Proofs.YtgcmfpcgmkkobaaGreatDoor
open Go.RowKit
theorem RetEd.ahead {B0 gb : Nat} {E : Er → Value} {N K : Value} {r : EdR} {F : List Nat} {w w2 : World} {en : Ending} {w' : World} (hc : Chg NoB w w2) (h : RetEd B0 gb E N K r F w2 en w') : RetEd B0 gb E N K r F w en w' := by
 obtain ⟨h1, h2⟩ := h
 refine ⟨(hc.mono (D := fun x => x = gb ∨ x ∈ F) (fun _ _ e => nbE e)).trans h1 (fun x e => .inl e), ?_⟩
 cases r with
 | ok l nx => obtain ⟨he, F', hL, hs⟩ := h2; exact ⟨he, F', hL, fun x hx => (hs x hx).imp id (fun h => Nat.le_trans hc.size h)⟩
 | bad e => exact h2
theorem RetEd.form {B0 gb : Nat} {E : Er → Value} {N K : Value} {r : EdR} {F : List Nat} {w2 wg : World} {m : Int} {en : Ending} {w' : World} (hG : EvG B0 E N K m wg) (h : RetEd B0 gb E N K r F w2 en w') : en = .returned .nilIface ∨ ∃ T u, en = .returned (.iface T u) := by
 obtain ⟨h1, h2⟩ := h
 cases r with
 | ok l nx => exact .inl h2.1
 | bad e =>
  refine .inr ?_
  cases e with
  | er e => obtain ⟨T, u, hE⟩ := hG.glo.errs.form e; exact ⟨T, u, by rw [← hE]; exact h2⟩
  | non => obtain ⟨T, u, hE⟩ := hG.nform; exact ⟨T, u, by rw [← hE]; exact h2⟩
  | kind => obtain ⟨T, u, hE⟩ := hG.kform; exact ⟨T, u, by rw [← hE]; exact h2⟩
theorem mkB_sz (l : List UInt8) : (mkB l).size = l.length := by simp [mkB, ByteArray.size]
theorem join_rest {line w0 w1 x : ByteArray} {r : List ByteArray} (h : wordsB line = w0 :: w1 :: x :: r) : (joinW (x :: r)).length ≤ line.size := by
 have h1 := joinW_words line
 rw [h] at h1
 have h2 := congrArg List.length h1
 rw [length_data] at h2
 simp only [joinW, blanks, List.map_cons, List.flatten_cons, List.length_append, List.length_cons] at h2 ⊢
 omega
theorem edit_add (B0 gb : Nat) (E : Er → Value) (N K : Value) (line w0 s1 x : ByteArray) (r : List ByteArray) (hws : wordsB line = w0 :: s1 :: x :: r) (l : List Nd) (nx m : Int) (F : List Nat) (w : World) (hG : EvG B0 E N K m w) (hl : line.size ≤ 10000) (hB : B0 ≤ gb) (hL : LogSt w B0 gb l nx F) (hn : (idsL l).Nodup) (hw : Nd.weighs l ≤ 1000) (hnx : 0 ≤ nx ∧ nx ≤ 1000000) (hw0d : w0 = bAdd) :
  Calls Tryz.prog 29 #[.pointer (some ⟨gb, 0, none⟩), .string line] w (RetEd B0 gb E N K (addF s1 (mkB (joinW (x :: r))) l nx) F w) := by
 have hsp := Tryz.strings_Split line ⟨#[32]⟩ m w (by omega) hG.max (by decide)
 have hwl := words_len line
 have hwsz := words_size line
 have hwc := words_count line
 have hjr := join_rest hws
 rw [split_words, ← hwl, hws] at hsp
 rw [hws] at hwsz hwc
 obtain ⟨n, hne⟩ : ∃ n, n = (w0 :: s1 :: x :: r).length := ⟨_, rfl⟩
 rw [← hne] at hsp hwc
 have hne2 : n = (x :: r).length + 2 := hne
 have hn2 : 3 ≤ n := by rw [hne2, List.length_cons]; omega
 have hnI : (2 : Int) < (n : Int) := by omega
 have hab : (w0.toList == [97, 100, 100]) = true := by rw [bytes_beq]; exact decide_eq_true hw0d
 have hs1 : s1.size ≤ 10000 := by have := hwsz s1 (List.mem_cons_of_mem _ (List.mem_cons_self ..)); omega
 have hxs : ∀ y ∈ x :: r, y.size ≤ 100000 := fun y hy => by have := hwsz y (List.mem_cons_of_mem _ (List.mem_cons_of_mem _ hy)); omega
 have Hxs := Lib.hid hxs
 have Hne2 := Lib.hid hne2
 have hgl := hL.pt.lt.1
 have Hlt := Lib.hid hL.pt.lt.2
 clear hwl hws hwsz hw0d hxs hne hne2
 go_enter Tryz.func29, Tryz.ntmps29
 go_wp2_with fail
 refine hsp.mono ?_
 rintro en w1 ⟨rfl, hww⟩
 have hc1 : Chg NoB w w1 := by
  rw [← hww.symm]
  repeat (first | exact Chg.refl _ _ | apply Chg.alloc | apply Chg.drew)
 have hb1 : Blk w1 w.heap.size ((w0 :: s1 :: x :: r).map Value.string) 9 := by rw [hww]; exact Blk.newAt rfl
 clear hsp hww
 have e0 : w1.cell? ⟨w.heap.size, 0, none⟩ = some (.string w0) := hb1.cell 0
 have e1 : w1.cell? ⟨w.heap.size, 1, none⟩ = some (.string s1) := hb1.cell 1
 have hz1 := hb1.lt
 go_wp2_with fail
 refine wp_region_n (fun w' => w'.cell? ⟨w.heap.size, 1, none⟩ = some (.string s1)) [] (by kernel_rfl) ?_ (fun hSh => ?_)
 ·exact e1
 refine n_tA (v := ?_) 0 rfl (Or.inl ⟨by rfl, ?_⟩) ?_
 rotate_left 1
 ·(intro w' hSw; (try dsimp only at hSw); go_simp; try with_reducible rfl)
 simp only [Act.put, qA, qB, qC, qD, qE, qF]
 refine n_tA (v := ?_) 1 rfl (Or.inl ⟨by rfl, ?_⟩) ?_
 rotate_left 1
 ·(intro w' hSw; (try dsimp only at hSw); go_simp; try with_reducible rfl)
 simp only [Act.put, qA, qB, qC, qD, qE, qF]
 refine n_tA (v := ?_) 2 rfl (Or.inl ⟨by rfl, ?_⟩) ?_
 rotate_left 1
 ·(intro w' hSw; (try dsimp only at hSw); go_simp; rw [if_pos (by omega)]; (try rw [if_neg (by omega)]); try with_reducible rfl)
 simp only [Act.put, qA, qB, qC, qD, qE, qF]
 refine n_tA (v := ?_) 3 rfl (Or.inl ⟨by rfl, ?_⟩) ?_
 rotate_left 1
 ·(intro w' hSw; (try dsimp only at hSw); go_simp; try with_reducible rfl)
 simp only [Act.put, qA, qB, qC, qD, qE, qF]
 refine n_tA (v := ?_) 4 rfl (Or.inl ⟨by rfl, ?_⟩) ?_
 rotate_left 1
 ·(intro w' hSw; (try dsimp only at hSw); go_simp; try with_reducible rfl)
 simp only [Act.put, qA, qB, qC, qD, qE, qF]
 refine n_tA (v := ?_) 5 rfl (Or.inl ⟨by rfl, ?_⟩) ?_
 rotate_left 1
 ·(intro w' hSw; (try dsimp only at hSw); go_simp; rw [if_pos (by omega)]; (try rw [if_neg (by omega)]); try with_reducible rfl)
 simp only [Act.put, qA, qB, qC, qD, qE, qF]
 refine n_step 6 rfl (by kernel_rfl) ?_
 go_wp2_with fail
 have hjo : Calls Tryz.prog 51 #[.slice (some ⟨w.heap.size, 2, none⟩) (n - 2) (n - 2), .string ⟨#[32]⟩] w1.drew (RetV (.string (mkB (joinW (x :: r)))) w1.drew) := by
  rw [show n - 2 = (x :: r).length from by rw [Hne2.out]; omega]
  refine join_any w.heap.size 2 _ (x :: r) w1.drew (by simp) (fun j y hy => ?_) hz1 (by have := Hne2.out; omega) (Nat.le_refl _) Hxs.out
  have h9 : w1.drew.cell? ⟨w.heap.size, 2 + j, none⟩ = some (.string y) := by
   rw [hb1.drew.cell (2 + j), Nat.add_comm 2 j]
   show ((x :: r).map Value.string)[j]? = _
   rw [List.getElem?_map, hy]; rfl
  exact h9
 refine hjo.mono ?_
 clear hjo
 rintro en w2 ⟨rfl, hc2⟩
 have hc12 : Chg NoB w w2 := hc1.tr (Chg.trans ((Chg.refl NoB w1).drew) hc2 (fun _ e => nbE e))
 have hb2 := hb1.drew.keep hc2 nbE
 have hL2 := hL.keep hc12 nbE (fun _ _ => nbE)
 go_wp2_with fail
 refine ⟨fun _ => hb2.cell 1, fun hSk => ?_⟩
 replace hSk := hSk (by rfl)
 refine n_step 7 rfl (by kernel_rfl) ?_
 go_wp2_with fail
 refine (add_any B0 gb E N K s1 (mkB (joinW (x :: r))) l nx m F w2 (hG.keep0 hc12) hB hL2 hn hw (by omega) (by rw [mkB_sz]; omega) hnx).mono ?_
 intro en w3 hR
 have hR0 := hR.ahead hc12
 have e13 : w3.cell? ⟨w.heap.size, 1, none⟩ = some (.string s1) := (hR.1.cell (p := ⟨w.heap.size, 1, none⟩) hb2.lt (fun e => by
  rcases e with e | e
  ·have e : w.heap.size = gb := e; omega
  ·have h9 := (Hlt.out _ e).2; exact Nat.lt_irrefl _ h9)).trans (hb2.cell 1)
 rcases hR.form hG with rfl | ⟨T, u, rfl⟩
 ·have HR := Lib.hid hR0
  clear hR hR0
  go_wp2_with fail
  refine ⟨fun _ => e13, fun hSk3 => ?_⟩
  replace hSk3 := hSk3 (by rfl)
  refine n_step 8 rfl (by kernel_rfl) ?_
  go_wp2_with fail
  refine ⟨fun _ => hSk3, fun _ => ?_⟩
  refine n_done (by kernel_rfl) ?_
  go_wp2_with fail
  go_ret
  exact HR.out
 ·have HR := Lib.hid hR0
  clear hR hR0
  go_wp2_with fail
  refine ⟨fun _ => e13, fun hSk3 => ?_⟩
  replace hSk3 := hSk3 (by rfl)
  refine n_step 8 rfl (by kernel_rfl) ?_
  go_wp2_with fail
  refine ⟨fun _ => hSk3, fun _ => ?_⟩
  refine n_done (by kernel_rfl) ?_
  go_wp2_with fail
  go_ret
  exact HR.out
end Go.Proofs.YtgcmfpcgmkkobaaGreatDoor
